/- Our own texts of this seat. -/
import Derived.Test.YtimkfiaffohhkaaGreatDoorYB1
import Derived.Lib.ItoaNum
import Derived.Lib.Join
import Derived.Shelf.Strings.Builder1
import Derived.Shelf.Strings.Builder2
import Derived.Shelf.Strings.OnBuilder
import Derived.Shelf.Small.Bits
import Derived.Shelf.Small.Wraps
import Derived.Shelf.Strconv.Itoa0
import Derived.Shelf.Strconv.Itoa1
import Derived.Shelf.LaysM
import Derived.Shelf.Strconv.Itoa2
import Derived.Shelf.Strconv.Itoa3
import Derived.Shelf.SlGeneric
import Derived.Shelf.SlSortCmp.NoneTotal
import Derived.Ground.SlsfProg
import Derived.Shelf.Spec.SlicesGrow
import Derived.Ground.Names8Prog
import Derived.Test.YtimkfiaffohhkaaGreatDoorProg
import Derived.Sort.Grow
import Derived.Deep.Draws
set_option linter.unusedSimpArgs false
set_option linter.unusedVariables false
set_option linter.unusedSectionVars false
set_option maxRecDepth 100000
set_option maxHeartbeats 4000000
namespace Go.Proofs.YtimkfiaffohhkaaGreatDoor
open Go.RowKit Go.Abs
structure aa where
 source:Int
 aZ:Int
 kind:Int
 a:(List UInt8)
 b:(List UInt8)
 start:Int
 cJ:Int
 call:Int
 part:Int
 last:Bool
 cT:Int
 bI:Bool
instance:Inhabited aa:=⟨⟨default,default,default,default,default,default,default,default,default,default,default,default⟩⟩
def aa.row (x:aa):List D:=[cI x.source,cI x.aZ,cI x.kind,cS x.a,cS x.b,cI x.start,cI x.cJ,cI x.call,cI x.part,cB x.last,cI x.cT,cB x.bI]
def aa.bR (x:aa):List Value:=[.int .i64 x.source,.int .i64 x.aZ,.int .i64 x.kind,.string ⟨x.a.toArray⟩,.string ⟨x.b.toArray⟩,.int .i64 x.start,.int .i64 x.cJ,.int .i64 x.call,.int .i64 x.part,.bool x.last,.int .i64 x.cT,.bool x.bI]
structure Range where
 source:Int
 from_:Int
 lz:Int
instance:Inhabited Range:=⟨⟨default,default,default⟩⟩
def Range.row (x:Range):List D:=[cI x.source,cI x.from_,cI x.lz]
def Range.bR (x:Range):List Value:=[.int .i64 x.source,.int .i64 x.from_,.int .i64 x.lz]
structure Head where
 source:Int
 number:Int
 format:Int
 count:Int
instance:Inhabited Head:=⟨⟨default,default,default,default⟩⟩
def Head.row (x:Head):List D:=[cI x.source,cI x.number,cI x.format,cI x.count]
def Head.bR (x:Head):List Value:=[.int .i64 x.source,.int .i64 x.number,.int .i64 x.format,.int .i64 x.count]
structure ak where
 source:Int
 aZ:Int
 index:Int
 err:Int
instance:Inhabited ak:=⟨⟨default,default,default,default⟩⟩
def ak.row (x:ak):List D:=[cI x.source,cI x.aZ,cI x.index,cI x.err]
def ak.bR (x:ak):List Value:=[.int .i64 x.source,.int .i64 x.aZ,.int .i64 x.index,.int .i64 x.err]
structure aA where
 id:Int
 kind:Int
 aw:Int
 sub:Int
 a:(List UInt8)
 b:(List UInt8)
 start:Int
 cJ:Int
 cT:Int
 bI:Bool
 source:Int
 aZ:Int
instance:Inhabited aA:=⟨⟨default,default,default,default,default,default,default,default,default,default,default,default⟩⟩
def aA.row (x:aA):List D:=[cI x.id,cI x.kind,cI x.aw,cI x.sub,cS x.a,cS x.b,cI x.start,cI x.cJ,cI x.cT,cB x.bI,cI x.source,cI x.aZ]
def aA.bR (x:aA):List Value:=[.int .i64 x.id,.int .i64 x.kind,.int .i64 x.aw,.int .i64 x.sub,.string ⟨x.a.toArray⟩,.string ⟨x.b.toArray⟩,.int .i64 x.start,.int .i64 x.cJ,.int .i64 x.cT,.bool x.bI,.int .i64 x.source,.int .i64 x.aZ]
structure aH where
 seen:(List Range)
 open_:(List aa)
 aT:(List Head)
instance:Inhabited aH:=⟨⟨default,default,default⟩⟩
def aH.row (x:aH):List D:=[ag 3 Range.row x.seen,ag 12 aa.row x.open_,ag 4 Head.row x.aT]
structure ah where
 aM:aH
 usages:(List aA)
 aP:(List aa)
 bu:(List ak)
instance:Inhabited ah:=⟨⟨default,default,default,default⟩⟩
def ah.row (x:ah):List D:=[ag 3 Range.row x.aM.seen,ag 12 aa.row x.aM.open_,ag 4 Head.row x.aM.aT,ag 12 aA.row x.usages,ag 12 aa.row x.aP,ag 4 ak.row x.bu]
structure Event where
 at_:Int
 kind:Int
 aw:Int
 sub:Int
 number:(List UInt8)
 name:(List UInt8)
 value:Int
instance:Inhabited Event:=⟨⟨default,default,default,default,default,default,default⟩⟩
def Event.row (x:Event):List D:=[cI x.at_,cI x.kind,cI x.aw,cI x.sub,cS x.number,cS x.name,cI x.value]
structure Batch where
 source:Int
 number:Int
 format:Int
 records:(List aa)
instance:Inhabited Batch:=⟨⟨default,default,default,default⟩⟩
def Batch.row (x:Batch):List D:=[cI x.source,cI x.number,cI x.format,ag 12 aa.row x.records]
structure gC where
 ib:Int
 nI:Int
instance:Inhabited gC:=⟨⟨default,default⟩⟩
def gC.row (x:gC):List D:=[cI x.ib,cI x.nI]
structure aI where
 source:Int
 number:Int
instance:Inhabited aI:=⟨⟨default,default⟩⟩
def aI.row (x:aI):List D:=[cI x.source,cI x.number]
def aI.bR (x:aI):List Value:=[.int .i64 x.source,.int .i64 x.number]
structure bE where
 call:aI
 kind:Int
 a:(List UInt8)
 b:(List UInt8)
 cT:Int
 bI:Bool
instance:Inhabited bE:=⟨⟨default,default,default,default,default,default⟩⟩
def bE.row (x:bE):List D:=[cI x.call.source,cI x.call.number,cI x.kind,cS x.a,cS x.b,cI x.cT,cB x.bI]
def bE.bR (x:bE):List Value:=[.int .i64 x.call.source,.int .i64 x.call.number,.int .i64 x.kind,.string ⟨x.a.toArray⟩,.string ⟨x.b.toArray⟩,.int .i64 x.cT,.bool x.bI]
structure dD where
 record:aa
instance:Inhabited dD:=⟨⟨default⟩⟩
def dD.row (x:dD):List D:=[cI x.record.source,cI x.record.aZ,cI x.record.kind,cS x.record.a,cS x.record.b,cI x.record.start,cI x.record.cJ,cI x.record.call,cI x.record.part,cB x.record.last,cI x.record.cT,cB x.record.bI]
structure aq where
 id:Int
 since:Int
 anchor:Int
 fO:Bool
 closed:Bool
 bm:(List Int)
instance:Inhabited aq:=⟨⟨default,default,default,default,default,default⟩⟩
def aq.row (x:aq):List D:=[cI x.id,cI x.since,cI x.anchor,cB x.fO,cB x.closed,ag 1 rI x.bm]
def aq.nW (x:aq):List D:=[cI x.id,cI x.since,cI x.anchor,cB x.fO,cB x.closed,.e0 1]
structure Sub where
 id:Int
 aw:Int
 since:Int
 vP:(List UInt8)
 numbers:(List (List UInt8))
 cz:(List (List UInt8))
 bO:Bool
 family:Bool
instance:Inhabited Sub:=⟨⟨default,default,default,default,default,default,default,default⟩⟩
def Sub.row (x:Sub):List D:=[cI x.id,cI x.aw,cI x.since,cS x.vP,ag 1 rS x.numbers,ag 1 rS x.cz,cB x.bO,cB x.family]
structure cj where
 aJ:(List aq)
 bm:(List Sub)
instance:Inhabited cj:=⟨⟨default,default⟩⟩
def cj.row (x:cj):List D:=[ag 6 aq.row x.aJ,ag 8 Sub.row x.bm]
structure jR where
 source:dD
 events:(List Event)
instance:Inhabited jR:=⟨⟨default,default⟩⟩
def jR.row (x:jR):List D:=[cI x.source.record.source,cI x.source.record.aZ,cI x.source.record.kind,cS x.source.record.a,cS x.source.record.b,cI x.source.record.start,cI x.source.record.cJ,cI x.source.record.call,cI x.source.record.part,cB x.source.record.last,cI x.source.record.cT,cB x.source.record.bI,ag 7 Event.row x.events]
structure tL where
 tn:ah
 events:(List Event)
instance:Inhabited tL:=⟨⟨default,default⟩⟩
def tL.row (x:tL):List D:=[ag 3 Range.row x.tn.aM.seen,ag 12 aa.row x.tn.aM.open_,ag 4 Head.row x.tn.aM.aT,ag 12 aA.row x.tn.usages,ag 12 aa.row x.tn.aP,ag 4 ak.row x.tn.bu,ag 7 Event.row x.events]
structure b8 where
 read:Int
 accepted:Int
 merged:Int
 rejected:Int
 bO:Int
 open_:Int
instance:Inhabited b8:=⟨⟨default,default,default,default,default,default⟩⟩
def b8.row (x:b8):List D:=[cI x.read,cI x.accepted,cI x.merged,cI x.rejected,cI x.bO,cI x.open_]
def b8.bR (x:b8):List Value:=[.int .i64 x.read,.int .i64 x.accepted,.int .i64 x.merged,.int .i64 x.rejected,.int .i64 x.bO,.int .i64 x.open_]
structure bF where
 source:Int
 aZ:Int
 deriving DecidableEq
instance:Inhabited bF:=⟨⟨default,default⟩⟩
def bF.row (x:bF):List D:=[cI x.source,cI x.aZ]
def bF.bR (x:bF):List Value:=[.int .i64 x.source,.int .i64 x.aZ]
structure bn where
 source:Int
 aZ:Int
 deriving DecidableEq
instance:Inhabited bn:=⟨⟨default,default⟩⟩
def bn.row (x:bn):List D:=[cI x.source,cI x.aZ]
def bn.bR (x:bn):List Value:=[.int .i64 x.source,.int .i64 x.aZ]
structure ai where
 aJ:(List aq)
 bm:(List Sub)
 ended:(List Int)
instance:Inhabited ai:=⟨⟨default,default,default⟩⟩
def ai.row (x:ai):List D:=[ag 6 aq.nW x.aJ,ag 8 Sub.row x.bm,ag 1 rI x.ended]
structure se where
 batch:Batch
 Qk:gC
instance:Inhabited se:=⟨⟨default,default⟩⟩
def se.row (x:se):List D:=[cI x.batch.source,cI x.batch.number,cI x.batch.format,ag 12 aa.row x.batch.records,cI x.Qk.ib,cI x.Qk.nI]
abbrev aa.o58 (x:aa):dL:=.row 58 [.d (cI x.source),.d (cI x.aZ),.d (cI x.kind),.d (cS x.a),.d (cS x.b),.d (cI x.start),.d (cI x.cJ),.d (cI x.call),.d (cI x.part),.d (cB x.last),.d (cI x.cT),.d (cB x.bI)]
abbrev aH.o26 (x:aH):dL:=.row 26 [.d (ag 3 Range.row x.seen),.d (ag 12 aa.row x.open_),.d (ag 4 Head.row x.aT)]
abbrev ah.o30 (x:ah):dL:=.row 30 [.d (ag 3 Range.row x.aM.seen),.d (ag 12 aa.row x.aM.open_),.d (ag 4 Head.row x.aM.aT),.d (ag 12 aA.row x.usages),.d (ag 12 aa.row x.aP),.d (ag 4 ak.row x.bu)]
abbrev Batch.o38 (x:Batch):dL:=.row 38 [.d (cI x.source),.d (cI x.number),.d (cI x.format),.d (ag 12 aa.row x.records)]
abbrev aA.o54 (x:aA):dL:=.row 54 [.d (cI x.id),.d (cI x.kind),.d (cI x.aw),.d (cI x.sub),.d (cS x.a),.d (cS x.b),.d (cI x.start),.d (cI x.cJ),.d (cI x.cT),.d (cB x.bI),.d (cI x.source),.d (cI x.aZ)]
abbrev Event.o79 (x:Event):dL:=.row 79 [.d (cI x.at_),.d (cI x.kind),.d (cI x.aw),.d (cI x.sub),.d (cS x.number),.d (cS x.name),.d (cI x.value)]
abbrev aq.o175 (x:aq):dL:=.row 175 [.d (cI x.id),.d (cI x.since),.d (cI x.anchor),.d (cB x.fO),.d (cB x.closed),.d (ag 1 rI x.bm)]
abbrev Sub.o98 (x:Sub):dL:=.row 98 [.d (cI x.id),.d (cI x.aw),.d (cI x.since),.d (cS x.vP),.d (ag 1 rS x.numbers),.d (ag 1 rS x.cz),.d (cB x.bO),.d (cB x.family)]
abbrev Range.o106 (x:Range):dL:=.row 106 [.d (cI x.source),.d (cI x.from_),.d (cI x.lz)]
abbrev Head.o76 (x:Head):dL:=.row 76 [.d (cI x.source),.d (cI x.number),.d (cI x.format),.d (cI x.count)]
abbrev ai.o123 (x:ai):dL:=.row 123 [.d (ag 6 aq.nW x.aJ),.d (ag 8 Sub.row x.bm),.d (ag 1 rI x.ended)]
abbrev mo0 (l:List ((Int)×Int)):dL:=.map (jO (λn=>Value.int .i64 n) (λx=>cI x) l)
abbrev mo1 (l:List ((Int)×Bool)):dL:=.map (jO (λn=>Value.int .i64 n) (λx=>cB x) l)
abbrev mo2 (l:List ((List UInt8)×Int)):dL:=.map (jO (λs=>Value.string ⟨s.toArray⟩) (λx=>cI x) l)
abbrev mo3 (l:List ((Int)×aq)):dL:=.map (jO (λn=>Value.int .i64 n) (λx=>.agg (aq.row x)) l)
abbrev mo4 (l:List ((Int)×Sub)):dL:=.map (jO (λn=>Value.int .i64 n) (λx=>.agg (Sub.row x)) l)
abbrev mo5 (l:List ((bn)×Bool)):dL:=.map (jO (λx=>Value.agg (bn.bR x).toArray) (λx=>cB x) l)
abbrev mo6 (l:List ((bF)×Bool)):dL:=.map (jO (λx=>Value.agg (bF.bR x).toArray) (λx=>cB x) l)
abbrev mo7 (l:List ((Int)×List Int)):dL:=.map (jO (λn=>Value.int .i64 n) (λx=>ag 1 rI x) l)
abbrev kq0:aq:=(⟨0,0,0,false,false,([]:List Int)⟩:aq)
abbrev kq1:Event:=(⟨0,5,0,2,([49]:List UInt8),([]:List UInt8),0⟩:Event)
abbrev kq2:Event:=(⟨10,5,0,2,([51]:List UInt8),([]:List UInt8),0⟩:Event)
abbrev kq3:aH:=(⟨([]:List Range),([]:List aa),([]:List Head)⟩:aH)
abbrev kq4:aA:=(⟨0,0,0,0,([]:List UInt8),([]:List UInt8),0,0,0,false,0,0⟩:aA)
abbrev kq5:Event:=(⟨0,3,1,2,([]:List UInt8),([98,97,115,105,99]:List UInt8),0⟩:Event)
abbrev kq6:aa:=(⟨0,0,0,([]:List UInt8),([]:List UInt8),0,0,0,0,false,0,false⟩:aa)
abbrev kq7:aa:=(⟨1,2,2,([49]:List UInt8),([50]:List UInt8),20,1,5,2,true,0,false⟩:aa)
abbrev kq8:aa:=(⟨1,1,2,([49]:List UInt8),([50]:List UInt8),20,1,0,0,false,0,false⟩:aa)
abbrev kq9:aa:=(⟨1,2,2,([51]:List UInt8),([50]:List UInt8),20,1,0,0,false,0,false⟩:aa)
abbrev kq10:aa:=(⟨1,1,2,([49]:List UInt8),([50]:List UInt8),20,1,5,1,false,0,false⟩:aa)
abbrev kq11:Event:=(⟨0,1,1,0,([]:List UInt8),([112,111,115,116,112,97,105,100]:List UInt8),1⟩:Event)
abbrev kq12:Sub:=(⟨0,0,0,([]:List UInt8),([]:List (List UInt8)),([]:List (List UInt8)),false,false⟩:Sub)
abbrev kq13:ah:=(⟨(⟨([]:List Range),([]:List aa),([]:List Head)⟩:aH),([]:List aA),([]:List aa),([]:List ak)⟩:ah)
abbrev Dt (n:Nat):gK:=⟨9,1,n,none⟩
abbrev wQ (n:Nat):gK:=⟨66,4,n,none⟩
abbrev Range.sJ (n:Nat) (l:List Range):gK:=⟨106,3,n,some (l.map Range.row)⟩
abbrev pd (n:Nat):gK:=⟨106,3,n,none⟩
abbrev Range.nu (l:List Range):gK:=⟨106,3,l.length,some (l.map Range.row)⟩
abbrev bj (n:Nat):gK:=⟨58,12,n,none⟩
abbrev Fa (n:Nat):gK:=⟨3,1,n,none⟩
abbrev aa.o5 (n:Nat) (l:List aa):gK:=⟨58,12,n,some (l.map aa.row)⟩
abbrev aa.jq (l:List aa):gK:=⟨58,12,l.length,some (l.map aa.row)⟩
abbrev ak.zg (l:List ak):gK:=⟨66,4,l.length,some (l.map ak.row)⟩
abbrev ak.Bm (n:Nat) (l:List ak):gK:=⟨66,4,n,some (l.map ak.row)⟩
abbrev Fb (n:Nat):gK:=⟨76,4,n,none⟩
abbrev nJ (n:Nat):gK:=⟨98,8,n,none⟩
abbrev Eg (n:Nat):gK:=⟨175,6,n,none⟩
abbrev aA.j7 (l:List aA):gK:=⟨54,12,l.length,some (l.map aA.row)⟩
abbrev aA.Ou (n:Nat) (l:List aA):gK:=⟨54,12,n,some (l.map aA.row)⟩
abbrev Sub.Cr (n:Nat) (l:List Sub):gK:=⟨98,8,n,some (l.map Sub.row)⟩
abbrev Sub.Mb (l:List Sub):gK:=⟨98,8,l.length,some (l.map Sub.row)⟩
abbrev Ip (n:Nat):gK:=⟨54,12,n,none⟩
def vd (n:Int):Option (List UInt8):=ck (-9223372036854775808<=n/\n<=9223372036854775807) (some (Go.Lib.itoa n))
def Mc (xs:List (List UInt8)) (sep:List UInt8):Option (List UInt8):=ck (xs.length<=1000000000/\(Go.Lib.join xs sep).length<=1000000000) (some (Go.Lib.join xs sep))
def dX (xs:List aa):Option (List aa):=ck (xs.length<=1000000000) (some xs)
def iz (xs:List Range):Option (List Range):=ck (xs.length<=1000000000) (some xs)
def kS (xs:List Head):Option (List Head):=ck (xs.length<=1000000000) (some xs)
def xY (i:Int) (l l':List aa):Option (List aa):=ck (0<=i/\i<=(l.length:Int)/\1<=l'.length/\l.length+l'.length<=1000000000) (some (l.take i.toNat++l'++l.drop i.toNat))
def zN (i:Int) (l l':List Range):Option (List Range):=ck (0<=i/\i<=(l.length:Int)/\1<=l'.length/\l.length+l'.length<=1000000000) (some (l.take i.toNat++l'++l.drop i.toNat))
def xk (i j:Int) (l' l:List aa):Option (List aa):=ck (0<=i/\i<j/\j<=(l.length:Int)/\(l'.length:Int)<=j-i/\l.length<=1000000000) (some (l.take i.toNat++l'++l.drop j.toNat))
def ve (i j:Int) (l:List Range):Option (List Range):=ck (0<=i/\i<j/\j<=(l.length:Int)/\l.length<=1000000000) (some (l.take i.toNat++l.drop j.toNat))
def Md (x:ak):List ak->List ak
 | []=>[x]
 | y::l=>if x.index<=y.index then x::y::l else y::Md x l
def Nc:List ak->List ak
 | []=>[]
 | x::l=>Md x (Nc l)
def Bn (l:List ak):Option (List ak):=ck (l.length<=1000000000/\(l.map (·.index)).Nodup) (some (Nc l))
def nX (xs:List ak):Option (List ak):=ck (xs.length<=1000000000) (some xs)
def s7 (xs:List aA):Option (List aA):=ck (xs.length<=1000000000) (some xs)
def Bo (n:Int):Option (List aa):=ck (0<=n/\n<=1000000000) (some [])
def pf (jS:List aa):Option Bool :=
 some (decide ((jS.length:Int)<=30))
def mW (jS:List aa) (bz:Int):Option (Int ⊕ Bool) :=
 if ((decide (bz<(jS.length:Int))) && (decide (bz<31)))=true then (ck ((0:Int)<=bz/\bz<(jS.length:Int)) (ck ((!(decide ((((nth jS bz.toNat).a).length:Int) > 200)))=true->((0:Int)<=bz/\bz<(jS.length:Int))) (if ((decide ((((nth jS bz.toNat).a).length:Int) > 200)) || (decide ((((nth jS bz.toNat).b).length:Int) > 200)))=true then some (.inr false) else ck (cR (bz+1)) (some (.inl (bz+1)))))) else (pf jS).map (λz=>.inr z)
def tp (jS:List aa):Option Bool :=
 loop (λs=>mW jS s) 0
def iU (v0:ah):Option Bool :=
 (ct (decide ((v0.usages.length:Int)<=30)) (tp v0.aP)).bind λy1=>(ct ((decide ((v0.usages.length:Int)<=30)) && y1) (tp v0.aM.open_)).bind λy2=>some ((((((decide ((v0.usages.length:Int)<=30)) && y1) && y2) && (decide ((v0.bu.length:Int)<=30))) && (decide ((v0.aM.seen.length:Int)<=30))) && (decide ((v0.aM.aT.length:Int)<=30)))
def kn (v0:ah) (bL:Int):Option (Int ⊕ Bool) :=
 if ((decide (bL<(v0.usages.length:Int))) && (decide (bL<31)))=true then (ck ((0:Int)<=bL/\bL<(v0.usages.length:Int)) (ck ((!(decide ((((nth v0.usages bL.toNat).a).length:Int) > 200)))=true->((0:Int)<=bL/\bL<(v0.usages.length:Int))) (if ((decide ((((nth v0.usages bL.toNat).a).length:Int) > 200)) || (decide ((((nth v0.usages bL.toNat).b).length:Int) > 200)))=true then some (.inr false) else ck (cR (bL+1)) (some (.inl (bL+1)))))) else (iU v0).map (λz=>.inr z)
def rz (v0:ah):Option Bool :=
 loop (λs=>kn v0 s) 0
def pg (Iq:Bool):Option (List Event) :=
 if Iq=true then (ck (([(⟨0,1,1,0,([]:List UInt8),([112,111,115,116,112,97,105,100]:List UInt8),1⟩:Event),(⟨0,3,1,2,([]:List UInt8),([98,97,115,105,99]:List UInt8),0⟩:Event),(⟨0,5,0,2,([49]:List UInt8),([]:List UInt8),0⟩:Event)]:List Event).length+([(⟨10,5,0,2,([51]:List UInt8),([]:List UInt8),0⟩:Event)]:List Event).length<=1000000000) (some (([(⟨0,1,1,0,([]:List UInt8),([112,111,115,116,112,97,105,100]:List UInt8),1⟩:Event),(⟨0,3,1,2,([]:List UInt8),([98,97,115,105,99]:List UInt8),0⟩:Event),(⟨0,5,0,2,([49]:List UInt8),([]:List UInt8),0⟩:Event)]:List Event)++([(⟨10,5,0,2,([51]:List UInt8),([]:List UInt8),0⟩:Event)]:List Event)))) else some ([(⟨0,1,1,0,([]:List UInt8),([112,111,115,116,112,97,105,100]:List UInt8),1⟩:Event),(⟨0,3,1,2,([]:List UInt8),([98,97,115,105,99]:List UInt8),0⟩:Event),(⟨0,5,0,2,([49]:List UInt8),([]:List UInt8),0⟩:Event)]:List Event)
def tM (gj:Batch):Option Head :=
 some (⟨gj.source,gj.number,gj.format,(gj.records.length:Int)⟩:Head)
def ko (zh:Int) (Ir:Int) (Is:Int):Option Bool :=
 some ((decide (zh>=Ir)) && (decide (zh<=Is)))
def ph (VL:Head):Option Int :=
 (ko VL.source 1 99).bind λy1=>(ct (!(!y1)) (ko VL.number 1 999999999)).bind λy2=>if ((!y1) || (!y2))=true then some 6 else (ko VL.format 1 3).bind λy3=>if (!y3)=true then some 7 else (ko VL.count 0 4096).bind λy4=>if (!y4)=true then some 5 else some 0
def dS (zh:Int) (Ir:Int) (Is:Int):Option Bool :=
 some ((decide (zh>=Ir)) && (decide (zh<=Is)))
def pj (Se:UInt8):Option Bool :=
 some ((decide (Se>=48)) && (decide (Se<=57)))
def jw (bU:List UInt8):Option Bool :=
 some ((decide ((bU.length:Int)>=1)) && (decide ((bU.length:Int)<=15)))
def lS (bU:List UInt8) (p8:Int):Option (Int ⊕ Bool) :=
 if (decide (p8<(bU.length:Int)))=true then (ck ((0:Int)<=p8/\p8<(bU.length:Int)) ((pj (nth bU p8.toNat)).bind λy1=>if (!y1)=true then some (.inr false) else ck (cR (p8+1)) (some (.inl (p8+1))))) else (jw bU).map (λz=>.inr z)
def kp (bU:List UInt8):Option Bool :=
 loop (λs=>lS bU s) 0
def fz (v0:aa) (Cs:Int):Option Int :=
 (dS v0.source 1 99).bind λy1=>(ct (!(!y1)) (dS v0.aZ 1 999999999)).bind λy2=>if ((!y1) || (!y2))=true then some 6 else (dS v0.kind 1 4).bind λy3=>if (!y3)=true then some 7 else (kp v0.a).bind λy4=>(ct (!(!y4)) (kp v0.b)).bind λy5=>if ((!y4) || ((!y5) && (!(((v0.kind==3) || (v0.kind==4)) && (v0.b==([]:List UInt8))))))=true then some 12 else (dS v0.start 0 12622780799).bind λy6=>if (!y6)=true then some 15 else (dS v0.cJ 0 Cs).bind λy7=>if (!y7)=true then some 6 else ck ((v0.kind==1)=true->(cR (v0.start+v0.cJ))) (if ((v0.kind==1) && (decide ((v0.start+v0.cJ) > 12622780800)))=true then some 15 else (dS v0.call 0 999999999).bind λy8=>(ct (!(!y8)) (dS v0.part 0 99)).bind λy9=>if ((!y8) || (!y9))=true then some 6 else if (((v0.part==0) != (v0.call==0)) || (v0.last && (v0.part==0)))=true then some 8 else (dS v0.cT 0 999).bind λQl=>if (!Ql)=true then some 6 else if (v0.bI && (v0.cT==0))=true then some 8 else some 0)
def lB (v0:aa):Option Int :=
 if (v0.kind==1)=true then (fz v0 604800) else fz v0 1099511627776
def fa (Me:List (List UInt8)):Option ((List UInt8)×Int) :=
 (Mc Me ([32]:List UInt8)).bind λy6=>some (y6,0)
def fW (v0:aa) (wR:List (List UInt8)) (Fc:List UInt8):Option ((List UInt8)×Int) :=
 (vd v0.cT).bind λy7=>ck (wR.length+([Fc,y7]:List (List UInt8)).length<=1000000000) (fa (wR++([Fc,y7]:List (List UInt8))))
def ez (v0:aa) (wR:List (List UInt8)):Option ((List UInt8)×Int) :=
 if (v0.cT != 0)=true then (if v0.bI=true then (fW v0 wR ([105,110]:List UInt8)) else fW v0 wR ([111,117,116]:List UInt8)) else fa wR
def fb (v0:aa) (sf:List UInt8):Option ((List UInt8)×Int) :=
 ck (cR (v0.kind-1)) (ck ((0:Int)<=v0.kind-1/\v0.kind-1<=v0.kind/\v0.kind<=(([118,116,100,99]:List UInt8).length:Int)) ((vd v0.source).bind λy2=>(vd v0.aZ).bind λy3=>(vd v0.start).bind λy4=>(vd v0.cJ).bind λy5=>if (v0.part != 0)=true then ((vd v0.call).bind λy8=>(vd v0.part).bind λy9=>ck (([(([118,116,100,99]:List UInt8).take v0.kind.toNat).drop (v0.kind-1).toNat,y2,y3,v0.a,sf,y4,y5]:List (List UInt8)).length+([([112,97,114,116]:List UInt8),y8,y9]:List (List UInt8)).length<=1000000000) (if v0.last=true then (ck ((([(([118,116,100,99]:List UInt8).take v0.kind.toNat).drop (v0.kind-1).toNat,y2,y3,v0.a,sf,y4,y5]:List (List UInt8))++([([112,97,114,116]:List UInt8),y8,y9]:List (List UInt8))).length+([([108,97,115,116]:List UInt8)]:List (List UInt8)).length<=1000000000) (ez v0 ((([(([118,116,100,99]:List UInt8).take v0.kind.toNat).drop (v0.kind-1).toNat,y2,y3,v0.a,sf,y4,y5]:List (List UInt8))++([([112,97,114,116]:List UInt8),y8,y9]:List (List UInt8)))++([([108,97,115,116]:List UInt8)]:List (List UInt8))))) else ez v0 (([(([118,116,100,99]:List UInt8).take v0.kind.toNat).drop (v0.kind-1).toNat,y2,y3,v0.a,sf,y4,y5]:List (List UInt8))++([([112,97,114,116]:List UInt8),y8,y9]:List (List UInt8))))) else ez v0 ([(([118,116,100,99]:List UInt8).take v0.kind.toNat).drop (v0.kind-1).toNat,y2,y3,v0.a,sf,y4,y5]:List (List UInt8))))
def fD (v0:aa):Option ((List UInt8)×Int) :=
 (lB v0).bind λy1=>if (y1 != 0)=true then some (([]:List UInt8),y1) else if (v0.b==([]:List UInt8))=true then (fb v0 ([45]:List UInt8)) else fb v0 v0.b
def vQ (gj:Batch) (vR:Int):Option (Int ⊕ Int) :=
 if (decide (vR<(gj.records.length:Int)))=true then (ck ((0:Int)<=vR/\vR<(gj.records.length:Int)) ((fD (nth gj.records vR.toNat)).bind λy3=>if (y3.2 != 0)=true then some (.inr y3.2) else if ((nth gj.records vR.toNat).source != gj.source)=true then some (.inr 8) else ck (cR (vR+1)) (some (.inl (vR+1))))) else some (.inr 0)
def vf (gj:Batch):Option Int :=
 (tM gj).bind λy1=>(ph y1).bind λy2=>if (y2 != 0)=true then some y2 else loop (λs=>vQ gj s) 0
def qn (bA:aH) (bS:Int) (aE:Int):Option (Int ⊕ Int) :=
 if (decide (aE>=0))=true then (ck ((0:Int)<=aE/\aE<(bA.aT.length:Int)) (if (((nth bA.aT aE.toNat).source)==bS)=true then (ck ((0:Int)<=aE/\aE<(bA.aT.length:Int)) (ck (cR (((nth bA.aT aE.toNat).number)+1)) (some (.inr (((nth bA.aT aE.toNat).number)+1))))) else ck (cR (aE-1)) (some (.inl (aE-1))))) else some (.inr 1)
def iG (bA:aH) (bS:Int):Option Int :=
 if ((decide (bS<1)) || (decide (bS > 99)))=true then some 0 else ck (cR ((bA.aT.length:Int) - 1)) (loop (λs=>qn bA bS s) ((bA.aT.length:Int) - 1))
def pn (nv:aa) (Jh:gC):Option Int :=
 if ((decide (nv.start<Jh.ib)) || (decide (nv.start > Jh.nI)))=true then some 15 else some 0
def oA (bA:aH):Option aH :=
 (iz bA.seen).bind λy1=>(dX bA.open_).bind λy2=>(kS bA.aT).bind λy3=>some (⟨y1,y2,y3⟩:aH)
def gD (mc:Int) (mf:Int):Option Bool :=
 some ((((decide (mc>=1)) && (decide (mc<=99))) && (decide (mf>=1))) && (decide (mf<=999999999)))
def sg (tq:Int) (bG:(List Range)) (aS:Int) (aR:Int):Option Bool :=
 ck ((0:Int)<=tq/\tq<(bG.length:Int)) (some ((decide ((nth bG tq.toNat).source > aS)) || ((((nth bG tq.toNat).source)==aS) && (decide (((nth bG tq.toNat).lz)>=aR)))))
def vS (bG:(List Range)) (aS:Int) (aR:Int) (aE:Int) (ic:Int):Option ((Int×Int) ⊕ Int) :=
 if (decide (aE<ic))=true then (ck (cR (aE+ic)) (ck ((0:Int)<=1) ((sg (IntKind.wrap .i64 (Int.fdiv (IntKind.wrap .u64 (aE+ic)) (2 ^ (min (Int.toNat (1)) 64)))) bG aS aR).bind λy1=>if (!y1)=true then (ck (cR ((IntKind.wrap .i64 (Int.fdiv (IntKind.wrap .u64 (aE+ic)) (2 ^ (min (Int.toNat (1)) 64))))+1)) (some (.inl ((IntKind.wrap .i64 (Int.fdiv (IntKind.wrap .u64 (aE+ic)) (2 ^ (min (Int.toNat (1)) 64))))+1,ic)))) else some (.inl (aE,IntKind.wrap .i64 (Int.fdiv (IntKind.wrap .u64 (aE+ic)) (2 ^ (min (Int.toNat (1)) 64)))))))) else some (.inr aE)
def vg (zh:Int) (bG:(List Range)) (aS:Int) (aR:Int):Option Int :=
 loop (λs=>vS bG aS aR s.1 s.2) (0,zh)
def vh (aW:List Range) (bS:Int) (cN:Int):Option Int :=
 (vg (aW.length:Int) aW bS cN).bind λy1=>some y1
def uM (aW:List Range) (bS:Int) (cN:Int):Option Bool :=
 (vh aW bS cN).bind λy1=>(gD bS cN).bind λy2=>ck ((y2 && (decide (y1<(aW.length:Int))))=true->((0:Int)<=y1/\y1<(aW.length:Int))) (ck (((y2 && (decide (y1<(aW.length:Int)))) && (((nth aW y1.toNat).source)==bS))=true->((0:Int)<=y1/\y1<(aW.length:Int))) (some (((y2 && (decide (y1<(aW.length:Int)))) && (((nth aW y1.toNat).source)==bS)) && (decide (((nth aW y1.toNat).from_)<=cN)))))
def qV (fE:Range) (gx:Range):Option Bool :=
 ck ((fE.source==gx.source)=true->(cR (fE.lz+1))) (some ((fE.source==gx.source) && ((fE.lz+1)==gx.from_)))
def mX (tq:Int) (sK:Int) (aS:(List aa)) (aU:List ak):Option (List ak) :=
 ck ((0:Int)<=tq/\tq<(aS.length:Int)) (ck ((0:Int)<=tq/\tq<(aS.length:Int)) (ck (aU.length+([(⟨(nth aS tq.toNat).source,(nth aS tq.toNat).aZ,tq,sK⟩:ak)]:List ak).length<=1000000000) (some (aU++([(⟨(nth aS tq.toNat).source,(nth aS tq.toNat).aZ,tq,sK⟩:ak)]:List ak)))))
def oL (tq:Int) (aS:Int) (aR:Int) (aU:List Range):Option Bool :=
 ck ((0:Int)<=tq/\tq<(aU.length:Int)) (ck (tq.toNat<aU.length) (some ((decide ((nth aU tq.toNat).source > aS)) || ((((nth aU tq.toNat).source)==aS) && (decide (((nth aU tq.toNat).lz)>=aR))))))
def sL (aS:Int) (aR:Int) (aU:List Range) (aE:Int) (ic:Int):Option ((Int×Int) ⊕ Int) :=
 if (decide (aE<ic))=true then (ck (cR (aE+ic)) (ck ((0:Int)<=1) ((oL (IntKind.wrap .i64 (Int.fdiv (IntKind.wrap .u64 (aE+ic)) (2 ^ (min (Int.toNat (1)) 64)))) aS aR aU).bind λy1=>if (!y1)=true then (ck (cR ((IntKind.wrap .i64 (Int.fdiv (IntKind.wrap .u64 (aE+ic)) (2 ^ (min (Int.toNat (1)) 64))))+1)) (some (.inl ((IntKind.wrap .i64 (Int.fdiv (IntKind.wrap .u64 (aE+ic)) (2 ^ (min (Int.toNat (1)) 64))))+1,ic)))) else some (.inl (aE,IntKind.wrap .i64 (Int.fdiv (IntKind.wrap .u64 (aE+ic)) (2 ^ (min (Int.toNat (1)) 64)))))))) else some (.inr aE)
def qo (zh:Int) (aS:Int) (aR:Int) (aU:List Range):Option Int :=
 loop (λs=>sL aS aR aU s.1 s.2) (0,zh)
def qW (bS:Int) (cN:Int) (aU:List Range):Option Int :=
 (qo (aU.length:Int) bS cN aU).bind λy1=>some y1
def xZ (bS:Int) (cN:Int) (aU:List Range):Option Bool :=
 (qW bS cN aU).bind λy1=>(gD bS cN).bind λy2=>ck ((y2 && (decide (y1<(aU.length:Int))))=true->((0:Int)<=y1/\y1<(aU.length:Int))) (ck ((y2 && (decide (y1<(aU.length:Int))))=true->(y1.toNat<aU.length)) (ck (((y2 && (decide (y1<(aU.length:Int)))) && (((nth aU y1.toNat).source)==bS))=true->((0:Int)<=y1/\y1<(aU.length:Int))) (ck (((y2 && (decide (y1<(aU.length:Int)))) && (((nth aU y1.toNat).source)==bS))=true->(y1.toNat<aU.length)) (some (((y2 && (decide (y1<(aU.length:Int)))) && (((nth aU y1.toNat).source)==bS)) && (decide (((nth aU y1.toNat).from_)<=cN)))))))
def jx (y1:Int) (eX:List Range):Option (List Range) :=
 ck ((decide (y1 > 0))=true->(cR (y1-1))) (ck ((decide (y1 > 0))=true->((0:Int)<=(y1-1)/\(y1-1)<(eX.length:Int))) (ck ((decide (y1 > 0))=true->((y1-1).toNat<eX.length)) (ck ((decide (y1 > 0))=true->((0:Int)<=y1/\y1<(eX.length:Int))) (ck ((decide (y1 > 0))=true->(y1.toNat<eX.length)) ((ct (decide (y1 > 0)) (qV (nth eX (y1-1).toNat) (nth eX y1.toNat))).bind λy3=>if ((decide (y1 > 0)) && y3)=true then (ck (cR (y1-1)) (ck ((0:Int)<=y1/\y1<(eX.length:Int)) (ck (y1.toNat<eX.length) (ck ((0:Int)<=(y1-1)/\(y1-1)<(eX.length:Int)) (ck ((y1-1).toNat<eX.length) (ck (cR (y1+1)) ((ve y1 (y1+1) (eX.set (y1-1).toNat (⟨(nth eX (y1-1).toNat).source,(nth eX (y1-1).toNat).from_,(nth eX y1.toNat).lz⟩:Range))).bind λy4=>some y4))))))) else some eX)))))
def tN (v1:Int) (v2:Int) (aU:List Range):Option (List Range) :=
 (qW v1 v2 aU).bind λy1=>(zN y1 aU ([(⟨v1,v2,v2⟩:Range)]:List Range)).bind λy2=>ck (cR (y1+1)) (ck ((decide ((y1+1)<(y2.length:Int)))=true->((0:Int)<=y1/\y1<(y2.length:Int))) (ck ((decide ((y1+1)<(y2.length:Int)))=true->(y1.toNat<y2.length)) (ck ((decide ((y1+1)<(y2.length:Int)))=true->(cR (y1+1))) (ck ((decide ((y1+1)<(y2.length:Int)))=true->((0:Int)<=(y1+1)/\(y1+1)<(y2.length:Int))) (ck ((decide ((y1+1)<(y2.length:Int)))=true->((y1+1).toNat<y2.length)) ((ct (decide ((y1+1)<(y2.length:Int))) (qV (nth y2 y1.toNat) (nth y2 (y1+1).toNat))).bind λy5=>if ((decide ((y1+1)<(y2.length:Int))) && y5)=true then (ck (cR (y1+1)) (ck ((0:Int)<=(y1+1)/\(y1+1)<(y2.length:Int)) (ck ((y1+1).toNat<y2.length) (ck ((0:Int)<=y1/\y1<(y2.length:Int)) (ck (y1.toNat<y2.length) (ck (cR (y1+1)) (ck (cR (y1+2)) ((ve (y1+1) (y1+2) (y2.set y1.toNat (⟨(nth y2 y1.toNat).source,(nth y2 y1.toNat).from_,(nth y2 (y1+1).toNat).lz⟩:Range))).bind λy6=>jx y1 y6)))))))) else jx y1 y2))))))
def lT (Du:List Range) (wS:List aa) (gE:List ak):Option ((List Range)×(List aa)×(List ak)) :=
 some (Du,wS,gE)
def uN (ca:List aa) (ba:List Range) (ji:List aa) (dB:Int) (cF:List ak):Option ((List Range×List aa×Int×List ak) ⊕ ((List Range)×(List aa)×(List ak))) :=
 if (decide (dB<(ca.length:Int)))=true then (ck ((0:Int)<=dB/\dB<(ca.length:Int)) ((gD (nth ca dB.toNat).source (nth ca dB.toNat).aZ).bind λy2=>if (!y2)=true then ((mX dB 6 ca cF).bind λy3=>ck (cR (dB+1)) (some (.inl (ba,ji,dB+1,y3)))) else (xZ (nth ca dB.toNat).source (nth ca dB.toNat).aZ ba).bind λy4=>if y4=true then ((mX dB 13 ca cF).bind λy5=>ck (cR (dB+1)) (some (.inl (ba,ji,dB+1,y5)))) else (tN (nth ca dB.toNat).source (nth ca dB.toNat).aZ ba).bind λy6=>ck (ji.length+([nth ca dB.toNat]:List aa).length<=1000000000) (ck (cR (dB+1)) (some (.inl (y6,ji++([nth ca dB.toNat]:List aa),dB+1,cF)))))) else (lT ba ji cF).map (λz=>.inr z)
def tO (aW:List Range) (ca:List aa):Option ((List Range)×(List aa)×(List ak)) :=
 (iz aW).bind λy1=>loop (λs=>uN ca s.1 s.2.1 s.2.2.1 s.2.2.2) (y1,([]:List aa),0,([]:List ak))
def oB (Ji:Int):Option Bool :=
 some (Ji != Ji)
def jy (Ji:Int) (W3:Int):Option Int :=
 (oB Ji).bind λy1=>(oB W3).bind λy2=>if y1=true then (if y2=true then some 0 else some (-1)) else if y2=true then some 1 else if (decide (Ji<W3))=true then some (-1) else if (decide (Ji > W3))=true then some 1 else some 0
def xl (qp:List Int) (aY:Int):Option (Int ⊕ Int) :=
 if (decide (aY<(qp.length:Int)))=true then (ck ((0:Int)<=aY/\aY<(qp.length:Int)) (if ((nth qp aY.toNat) != 0)=true then some (.inr (nth qp aY.toNat)) else ck (cR (aY+1)) (some (.inl (aY+1))))) else some (.inr 0)
def wT (qp:List Int):Option Int :=
 loop (λs=>xl qp s) 0
def oM (fE:aa) (gx:aa):Option Int :=
 (jy fE.source gx.source).bind λy1=>(jy fE.call gx.call).bind λy2=>(jy fE.part gx.part).bind λy3=>(wT ([y1,y2,y3]:List Int)).bind λy4=>some y4
def da (nv:aa):Option aI :=
 some (⟨nv.source,nv.call⟩:aI)
def iV (nv:aa) (bG:aI):Option Bool :=
 (da nv).bind λy1=>some (eI (aI.bR y1) (aI.bR bG))
def oC (bU:List aa) (bG:aI) (aY:Int):Option (Int ⊕ Int) :=
 if (decide (aY<(bU.length:Int)))=true then (ck ((0:Int)<=aY/\aY<(bU.length:Int)) ((iV (nth bU aY.toNat) bG).bind λy1=>if y1=true then some (.inr aY) else ck (cR (aY+1)) (some (.inl (aY+1))))) else some (.inr (-1))
def po (bU:List aa) (bG:aI):Option Int :=
 loop (λs=>oC bU bG s) 0
def j8 (bN:List aa) (Ct:aI) (y1:Int) (eC:Int):Option (Int ⊕ (Int×Int)) :=
 ck ((decide (eC<(bN.length:Int)))=true->((0:Int)<=eC/\eC<(bN.length:Int))) ((ct (decide (eC<(bN.length:Int))) (da (nth bN eC.toNat))).bind λy2=>if ((decide (eC<(bN.length:Int))) && (eI (aI.bR y2) (aI.bR Ct)))=true then (ck (cR (eC+1)) (some (.inl (eC+1)))) else some (.inr (y1,eC)))
def kq (bN:List aa) (Ct:aI):Option (Int×Int) :=
 (po bN Ct).bind λy1=>if (decide (y1<0))=true then some (0,0) else loop (λs=>j8 bN Ct y1 s) y1
def gl (al:List aa) (et:Bool) (bX:List (Int×Int)) (fj:List Int) (dI:Int):Option ((List Int×Int) ⊕ (List Int)) :=
 if (!(aC bX dI).isSome)=true then some (.inr fj) else ck (fj.length+([(aC bX dI).getD 0]:List Int).length<=1000000000) (ck (et=true->((0:Int)<=((aC bX dI).getD 0)/\((aC bX dI).getD 0)<(al.length:Int))) (if (et && (nth al ((aC bX dI).getD 0).toNat).last)=true then some (.inr (fj++([(aC bX dI).getD 0]:List Int))) else ck (cR (dI+1)) (some (.inl (fj++([(aC bX dI).getD 0]:List Int),dI+1)))))
def eZ (al:List aa) (et:Bool) (bX:List (Int×Int)):Option (List Int) :=
 loop (λs=>gl al et bX s.1 s.2) (([]:List Int),1)
def ef (al:List aa) (et:Bool) (dF:Int) (cq:List (Int×Int)):Option ((Int×(List (Int×Int))) ⊕ (List Int)) :=
 if (decide (dF<(al.length:Int)))=true then (ck ((0:Int)<=dF/\dF<(al.length:Int)) (if (!(aC cq (nth al dF.toNat).part).isSome)=true then (ck (cR (dF+1)) (some (.inl (dF+1,dj cq (nth al dF.toNat).part dF)))) else ck (cR (dF+1)) (some (.inl (dF+1,cq))))) else (eZ al et cq).map (λz=>.inr z)
def fP (al:List aa) (et:Bool):Option (List Int) :=
 loop (λs=>ef al et s.1 s.2) (0,([]:List (Int×Int)))
def ig (al:List aa) (dh:List aa) (bX:List (Int×Bool)) (dw:List aa) (eL:Int):Option ((List aa×Int) ⊕ ((List aa)×(List aa))) :=
 if (decide (eL<(al.length:Int)))=true then (ck ((0:Int)<=eL/\eL<(al.length:Int)) (if (!((aC bX eL).getD false))=true then (ck (dw.length+([nth al eL.toNat]:List aa).length<=1000000000) (ck (cR (eL+1)) (some (.inl (dw++([nth al eL.toNat]:List aa),eL+1))))) else ck (cR (eL+1)) (some (.inl (dw,eL+1))))) else some (.inr (dh,dw))
def ij (al:List aa) (dh:List aa) (bX:List (Int×Bool)):Option ((List aa)×(List aa)) :=
 loop (λs=>ig al dh bX s.1 s.2) (([]:List aa),0)
def fX (al:List aa) (fk:List Int) (db:List aa) (eA:Int) (cq:List (Int×Bool)):Option ((List aa×Int×(List (Int×Bool))) ⊕ ((List aa)×(List aa))) :=
 if (decide (eA<(fk.length:Int)))=true then (ck ((0:Int)<=eA/\eA<(fk.length:Int)) (ck ((0:Int)<=(nth fk eA.toNat)/\(nth fk eA.toNat)<(al.length:Int)) (ck (db.length+([nth al (nth fk eA.toNat).toNat]:List aa).length<=1000000000) (ck (cR (eA+1)) (some (.inl (db++([nth al (nth fk eA.toNat).toNat]:List aa),eA+1,dj cq (nth fk eA.toNat) true))))))) else (ij al db cq).map (λz=>.inr z)
def iM (al:List aa) (fk:List Int):Option ((List aa)×(List aa)) :=
 loop (λs=>fX al fk s.1 s.2.1 s.2.2) (([]:List aa),0,([]:List (Int×Bool)))
def gS (nv:aa):Option aa :=
 some (⟨nv.source,nv.aZ,nv.kind,nv.a,nv.b,nv.start,nv.cJ,0,0,false,nv.cT,nv.bI⟩:aa)
def dU (nv:aa):Option Int :=
 (fD nv).bind λy1=>some y1.2
def gL (nv:aa):Option bE :=
 (da nv).bind λy1=>some (⟨y1,nv.kind,nv.a,nv.b,nv.cT,nv.bI⟩:bE)
def gM (y1:aa) (jT:Int):Option (aa×Bool) :=
 (dU (⟨y1.source,y1.aZ,y1.kind,y1.a,y1.b,y1.start,jT,y1.call,y1.part,y1.last,y1.cT,y1.bI⟩:aa)).bind λy2=>if (y2 != 0)=true then some ((⟨0,0,0,([]:List UInt8),([]:List UInt8),0,0,0,0,false,0,false⟩:aa),false) else some ((⟨y1.source,y1.aZ,y1.kind,y1.a,y1.b,y1.start,jT,y1.call,y1.part,y1.last,y1.cT,y1.bI⟩:aa),true)
def jz (al:List aa) (y1:aa) (dB:Int) (fA:Int):Option ((Int×Int) ⊕ (aa×Bool)) :=
 if (decide (dB<(al.length:Int)))=true then (ck ((0:Int)<=dB/\dB<(al.length:Int)) ((ct (!(((nth al dB.toNat).part)==0)) (dU (nth al dB.toNat))).bind λy3=>(ct (!((((nth al dB.toNat).part)==0) || (y3 != 0))) (gL (nth al dB.toNat))).bind λy4=>ck ((!((((nth al dB.toNat).part)==0) || (y3 != 0)))=true->((0:Int)<=0/\0<(al.length:Int))) ((ct (!((((nth al dB.toNat).part)==0) || (y3 != 0))) (gL (nth al (Int.toNat (0))))).bind λy5=>ck ((!(((((nth al dB.toNat).part)==0) || (y3 != 0)) || (!(eI (bE.bR y4) (bE.bR y5)))))=true->(cR (1099511627776-fA))) (if ((((((nth al dB.toNat).part)==0) || (y3 != 0)) || (!(eI (bE.bR y4) (bE.bR y5)))) || (decide ((nth al dB.toNat).cJ > (1099511627776-fA))))=true then some (.inr ((⟨0,0,0,([]:List UInt8),([]:List UInt8),0,0,0,0,false,0,false⟩:aa),false)) else ck (cR (fA+((nth al dB.toNat).cJ))) (ck (cR (dB+1)) (some (.inl (dB+1,fA+((nth al dB.toNat).cJ))))))))) else (gM y1 fA).map (λz=>.inr z)
def fQ (al:List aa):Option (aa×Bool) :=
 if ((al.length:Int)==0)=true then some ((⟨0,0,0,([]:List UInt8),([]:List UInt8),0,0,0,0,false,0,false⟩:aa),false) else ck ((0:Int)<=0/\0<(al.length:Int)) ((gS (nth al (Int.toNat (0)))).bind λy1=>loop (λs=>jz al y1 s.1 s.2) (0,0))
def gT (al:List aa):Option (aa×Bool) :=
 (fQ al).bind λy1=>some (y1.1,y1.2)
def oU (al:List aa) (aY:Int):Option (Int ⊕ (aa×Bool)) :=
 if (decide (aY<(al.length:Int)))=true then (ck ((0:Int)<=aY/\aY<(al.length:Int)) (ck (cR (aY+1)) (ck ((!((nth al aY.toNat).part != (aY+1)))=true->(cR ((al.length:Int) - 1))) (if (((nth al aY.toNat).part != (aY+1)) || ((nth al aY.toNat).last != (aY==((al.length:Int) - 1))))=true then some (.inr ((⟨0,0,0,([]:List UInt8),([]:List UInt8),0,0,0,0,false,0,false⟩:aa),false)) else ck (cR (aY+1)) (some (.inl (aY+1))))))) else (gT al).map (λz=>.inr z)
def mg (al:List aa):Option (aa×Bool) :=
 loop (λs=>oU al s) 0
def tP (bG:aI) (aU:List aa) (aY:Int):Option (Int ⊕ Int) :=
 if (decide (aY<(aU.length:Int)))=true then (ck ((0:Int)<=aY/\aY<(aU.length:Int)) (ck (aY.toNat<aU.length) ((iV (nth aU aY.toNat) bG).bind λy1=>if y1=true then some (.inr aY) else ck (cR (aY+1)) (some (.inl (aY+1)))))) else some (.inr (-1))
def si (bG:aI) (aU:List aa):Option Int :=
 loop (λs=>tP bG aU s) 0
def sM (Ct:aI) (aU:List aa) (y1:Int) (eC:Int):Option (Int ⊕ (Int×Int)) :=
 ck ((decide (eC<(aU.length:Int)))=true->((0:Int)<=eC/\eC<(aU.length:Int))) (ck ((decide (eC<(aU.length:Int)))=true->(eC.toNat<aU.length)) ((ct (decide (eC<(aU.length:Int))) (da (nth aU eC.toNat))).bind λy2=>if ((decide (eC<(aU.length:Int))) && (eI (aI.bR y2) (aI.bR Ct)))=true then (ck (cR (eC+1)) (some (.inl (eC+1)))) else some (.inr (y1,eC))))
def qq (Ct:aI) (aU:List aa):Option (Int×Int) :=
 (si Ct aU).bind λy1=>if (decide (y1<0))=true then some (0,0) else loop (λs=>sM Ct aU y1 s) y1
def nw (al:List aa) (et:Bool) (bX:List (Int×Int)) (fj:List Int) (dI:Int):Option ((List Int×Int) ⊕ (List Int)) :=
 if (!(aC bX dI).isSome)=true then some (.inr fj) else ck (fj.length+([(aC bX dI).getD 0]:List Int).length<=1000000000) (ck (et=true->((0:Int)<=((aC bX dI).getD 0)/\((aC bX dI).getD 0)<(al.length:Int))) (ck (et=true->(((aC bX dI).getD 0).toNat<al.length)) (if (et && (nth al ((aC bX dI).getD 0).toNat).last)=true then some (.inr (fj++([(aC bX dI).getD 0]:List Int))) else ck (cR (dI+1)) (some (.inl (fj++([(aC bX dI).getD 0]:List Int),dI+1))))))
def gn (al:List aa) (et:Bool) (bX:List (Int×Int)):Option (List Int) :=
 loop (λs=>nw al et bX s.1 s.2) (([]:List Int),1)
def gq (al:List aa) (et:Bool) (dF:Int) (cq:List (Int×Int)):Option ((Int×(List (Int×Int))) ⊕ (List Int)) :=
 if (decide (dF<(al.length:Int)))=true then (ck ((0:Int)<=dF/\dF<(al.length:Int)) (ck (dF.toNat<al.length) (if (!(aC cq (nth al dF.toNat).part).isSome)=true then (ck (cR (dF+1)) (some (.inl (dF+1,dj cq (nth al dF.toNat).part dF)))) else ck (cR (dF+1)) (some (.inl (dF+1,cq)))))) else (gn al et cq).map (λz=>.inr z)
def kZ (al:List aa) (et:Bool):Option (List Int) :=
 loop (λs=>gq al et s.1 s.2) (0,([]:List (Int×Int)))
def sN (al:List aa) (dh:List aa) (bX:List (Int×Bool)) (dw:List aa) (eL:Int):Option ((List aa×Int) ⊕ ((List aa)×(List aa))) :=
 if (decide (eL<(al.length:Int)))=true then (ck ((0:Int)<=eL/\eL<(al.length:Int)) (ck (eL.toNat<al.length) (if (!((aC bX eL).getD false))=true then (ck (dw.length+([nth al eL.toNat]:List aa).length<=1000000000) (ck (cR (eL+1)) (some (.inl (dw++([nth al eL.toNat]:List aa),eL+1))))) else ck (cR (eL+1)) (some (.inl (dw,eL+1)))))) else some (.inr (dh,dw))
def j9 (al:List aa) (dh:List aa) (bX:List (Int×Bool)):Option ((List aa)×(List aa)) :=
 loop (λs=>sN al dh bX s.1 s.2) (([]:List aa),0)
def ka (al:List aa) (fk:List Int) (db:List aa) (eA:Int) (cq:List (Int×Bool)):Option ((List aa×Int×(List (Int×Bool))) ⊕ ((List aa)×(List aa))) :=
 if (decide (eA<(fk.length:Int)))=true then (ck ((0:Int)<=eA/\eA<(fk.length:Int)) (ck ((0:Int)<=(nth fk eA.toNat)/\(nth fk eA.toNat)<(al.length:Int)) (ck ((nth fk eA.toNat).toNat<al.length) (ck (db.length+([nth al (nth fk eA.toNat).toNat]:List aa).length<=1000000000) (ck (cR (eA+1)) (some (.inl (db++([nth al (nth fk eA.toNat).toNat]:List aa),eA+1,dj cq (nth fk eA.toNat) true)))))))) else (j9 al db cq).map (λz=>.inr z)
def qs (al:List aa) (fk:List Int):Option ((List aa)×(List aa)) :=
 loop (λs=>ka al fk s.1 s.2.1 s.2.2) (([]:List aa),0,([]:List (Int×Bool)))
def iA (Eh:aI) (j2:List aa) (gU:List aa):Option ((List aa×List aa) ⊕ ((List aa)×(List aa))) :=
 (qq Eh j2).bind λy1=>ck ((0:Int)<=y1.1/\y1.1<=y1.2/\y1.2<=(j2.length:Int)) (ck ((0:Int)<=y1.1/\y1.1<=y1.2/\y1.2<=(j2.length:Int)) ((kZ ((j2.take y1.2.toNat).drop y1.1.toNat) true).bind λy2=>(qs ((j2.take y1.2.toNat).drop y1.1.toNat) y2).bind λy3=>(mg y3.1).bind λy4=>if (!y4.2)=true then some (.inr (j2,gU)) else (xk y1.1 y1.2 y3.2 j2).bind λy5=>ck (gU.length+([y4.1]:List aa).length<=1000000000) (some (.inl (y5,gU++([y4.1]:List aa))))))
def nK (Eh:aI) (aU:List aa) (gN:List aa):Option ((List aa)×(List aa)) :=
 loop (λs=>iA Eh s.1 s.2) (aU,gN)
def kb (aQ:List aa) (ba:List aa) (b9:List aa) (dY:Int) (yN:Int):Option ((List aa×List aa×Int) ⊕ ((List aa)×(List aa))) :=
 (xY yN ba ([nth aQ dY.toNat]:List aa)).bind λy2=>(da (nth aQ dY.toNat)).bind λy3=>(nK y3 y2 b9).bind λy4=>ck (cR (dY+1)) (some (.inl (y4.1,y4.2,dY+1)))
def sO (aQ:List aa) (ba:List aa) (b9:List aa) (dY:Int) (gI:Int):Option (Int ⊕ ((List aa×List aa×Int) ⊕ ((List aa)×(List aa)))) :=
 ck ((decide (gI<(ba.length:Int)))=true->((0:Int)<=gI/\gI<(ba.length:Int))) (ck ((decide (gI<(ba.length:Int)))=true->(gI.toNat<ba.length)) ((ct (decide (gI<(ba.length:Int))) (oM (nth ba gI.toNat) (nth aQ dY.toNat))).bind λy5=>if ((decide (gI<(ba.length:Int))) && (decide (y5<=0)))=true then (ck (cR (gI+1)) (some (.inl (gI+1)))) else (kb aQ ba b9 dY gI).map (λz=>.inr z)))
def sP (aQ:List aa) (ba:List aa) (b9:List aa) (dY:Int):Option ((List aa×List aa×Int) ⊕ ((List aa)×(List aa))) :=
 if (decide (dY<(aQ.length:Int)))=true then (ck ((0:Int)<=dY/\dY<(aQ.length:Int)) (if (((nth aQ dY.toNat).part)==0)=true then (ck (b9.length+([nth aQ dY.toNat]:List aa).length<=1000000000) (ck (cR (dY+1)) (some (.inl (ba,b9++([nth aQ dY.toNat]:List aa),dY+1))))) else loop (λs=>sO aQ ba b9 dY s) 0)) else some (.inr (b9,ba))
def mY (bN:List aa) (aQ:List aa):Option ((List aa)×(List aa)) :=
 (dX bN).bind λy1=>loop (λs=>sP aQ s.1 s.2.1 s.2.2) (y1,([]:List aa),0)
def lf (cG:List aa) (Jh:gC) (de:List ak) (qt:List Int) (bB:Int):Option ((List ak×List Int×Int) ⊕ ((List Int)×(List ak))) :=
 if (decide (bB<(cG.length:Int)))=true then (ck ((0:Int)<=bB/\bB<(cG.length:Int)) ((pn (nth cG bB.toNat) Jh).bind λy1=>if (y1 != 0)=true then (ck (de.length+([(⟨(nth cG bB.toNat).source,(nth cG bB.toNat).aZ,bB,y1⟩:ak)]:List ak).length<=1000000000) (ck (cR (bB+1)) (some (.inl (de++([(⟨(nth cG bB.toNat).source,(nth cG bB.toNat).aZ,bB,y1⟩:ak)]:List ak),qt,bB+1))))) else ck (qt.length+([bB]:List Int).length<=1000000000) (ck (cR (bB+1)) (some (.inl (de,qt++([bB]:List Int),bB+1)))))) else some (.inr (qt,de))
def sj (cG:List aa) (Jh:gC):Option ((List Int)×(List ak)) :=
 loop (λs=>lf cG Jh s.1 s.2.1 s.2.2) (([]:List ak),([]:List Int),0)
def sk (bA:aH):Option ((List Range)×(List aa)×(List Head)) :=
 (iz bA.seen).bind λy1=>(dX bA.open_).bind λy2=>(kS bA.aT).bind λy3=>some (y1,y2,y3)
def lg (v1:Batch) (y4:(List Range)×(List aa)×(List Head)) (y5:(List Range)×(List aa)×(List ak)) (Dv:List ak):Option (aH×(List aa)×(List ak)×Int) :=
 (Bn Dv).bind λy6=>(mY y4.2.1 y5.2.1).bind λy7=>ck (y4.2.2.length+([(⟨v1.source,v1.number,v1.format,(v1.records.length:Int)⟩:Head)]:List Head).length<=1000000000) (some ((⟨y5.1,y7.2,y4.2.2++([(⟨v1.source,v1.number,v1.format,(v1.records.length:Int)⟩:Head)]:List Head)⟩:aH),y7.1,y6,0))
def tQ (v1:Batch) (y3:(List Int)×(List ak)) (y4:(List Range)×(List aa)×(List Head)) (y5:(List Range)×(List aa)×(List ak)) (ba:List ak) (ga:Int):Option ((List ak×Int) ⊕ (aH×(List aa)×(List ak)×Int)) :=
 if (decide (ga<(y5.2.2.length:Int)))=true then (ck ((0:Int)<=ga/\ga<(y5.2.2.length:Int)) (ck ((0:Int)<=((nth y5.2.2 ga.toNat).index)/\((nth y5.2.2 ga.toNat).index)<(y3.1.length:Int)) (ck (ba.length+([(⟨(nth y5.2.2 ga.toNat).source,(nth y5.2.2 ga.toNat).aZ,nth y3.1 ((nth y5.2.2 ga.toNat).index).toNat,(nth y5.2.2 ga.toNat).err⟩:ak)]:List ak).length<=1000000000) (ck (cR (ga+1)) (some (.inl (ba++([(⟨(nth y5.2.2 ga.toNat).source,(nth y5.2.2 ga.toNat).aZ,nth y3.1 ((nth y5.2.2 ga.toNat).index).toNat,(nth y5.2.2 ga.toNat).err⟩:ak)]:List ak),ga+1))))))) else (lg v1 y4 y5 ba).map (λz=>.inr z)
def lh (v0:aH) (v1:Batch) (y3:(List Int)×(List ak)) (qa:List aa):Option (aH×(List aa)×(List ak)×Int) :=
 (sk v0).bind λy4=>(tO y4.1 qa).bind λy5=>loop (λs=>tQ v1 y3 y4 y5 s.1 s.2) (y3.2,0)
def lj (v0:aH) (v1:Batch) (y3:(List Int)×(List ak)) (ya:List aa) (pq:Int):Option ((List aa×Int) ⊕ (aH×(List aa)×(List ak)×Int)) :=
 if (decide (pq<(y3.1.length:Int)))=true then (ck ((0:Int)<=pq/\pq<(y3.1.length:Int)) (ck ((0:Int)<=(nth y3.1 pq.toNat)/\(nth y3.1 pq.toNat)<(v1.records.length:Int)) (ck (ya.length+([nth v1.records (nth y3.1 pq.toNat).toNat]:List aa).length<=1000000000) (ck (cR (pq+1)) (some (.inl (ya++([nth v1.records (nth y3.1 pq.toNat).toNat]:List aa),pq+1))))))) else (lh v0 v1 y3 ya).map (λz=>.inr z)
def sn (v0:aH) (v1:Batch) (v2:gC):Option (aH×(List aa)×(List ak)×Int) :=
 (vf v1).bind λy1=>if (y1 != 0)=true then some ((⟨([]:List Range),([]:List aa),([]:List Head)⟩:aH),([]:List aa),([]:List ak),y1) else (iG v0 v1.source).bind λy2=>if (v1.number != y2)=true then some ((⟨([]:List Range),([]:List aa),([]:List Head)⟩:aH),([]:List aa),([]:List ak),20) else (sj v1.records v2).bind λy3=>loop (λs=>lj v0 v1 y3 s.1 s.2) (([]:List aa),0)
def fR (bU:dD):Option (List UInt8) :=
 if bU.record.bI=true then some bU.record.b else some bU.record.a
def eM (aL:List Int) (r6:Int) (cg:Int):Option (List Int) :=
 ck ((0:Int)<=cg/\cg<=(aL.length:Int)) (ck ((aL.take cg.toNat).length<=1000000000) (ck ((aL.take cg.toNat).length+([r6]:List Int).length<=1000000000) (ck ((0:Int)<=cg/\cg<=(aL.length:Int)) (ck (((aL.take cg.toNat)++([r6]:List Int)).length+(aL.drop cg.toNat).length<=1000000000) (some (((aL.take cg.toNat)++([r6]:List Int))++(aL.drop cg.toNat)))))))
def kr (aL:List Int) (r6:Int) (di:Int):Option (Int ⊕ (List Int)) :=
 ck ((decide (di<(aL.length:Int)))=true->((0:Int)<=di/\di<(aL.length:Int))) (if ((decide (di<(aL.length:Int))) && (decide ((nth aL di.toNat)<r6)))=true then (ck (cR (di+1)) (some (.inl (di+1)))) else (eM aL r6 di).map (λz=>.inr z))
def fF (aL:List Int) (r6:Int):Option (List Int) :=
 loop (λs=>kr aL r6 s) 0
def dV (aL:List (List UInt8)) (r6:List UInt8) (cg:Int):Option (List (List UInt8)) :=
 ck ((0:Int)<=cg/\cg<=(aL.length:Int)) (ck ((aL.take cg.toNat).length<=1000000000) (ck ((aL.take cg.toNat).length+([r6]:List (List UInt8)).length<=1000000000) (ck ((0:Int)<=cg/\cg<=(aL.length:Int)) (ck (((aL.take cg.toNat)++([r6]:List (List UInt8))).length+(aL.drop cg.toNat).length<=1000000000) (some (((aL.take cg.toNat)++([r6]:List (List UInt8)))++(aL.drop cg.toNat)))))))
def iW (aL:List (List UInt8)) (r6:List UInt8) (di:Int):Option (Int ⊕ (List (List UInt8))) :=
 ck ((decide (di<(aL.length:Int)))=true->((0:Int)<=di/\di<(aL.length:Int))) (if ((decide (di<(aL.length:Int))) && (nH (nth aL di.toNat) r6))=true then (ck (cR (di+1)) (some (.inl (di+1)))) else (dV aL r6 di).map (λz=>.inr z))
def eN (aL:List (List UInt8)) (r6:List UInt8):Option (List (List UInt8)) :=
 loop (λs=>iW aL r6 s) 0
def mh (aL:List (List UInt8)) (r6:List UInt8) (gJ:List (List UInt8)) (bq:Int):Option ((List (List UInt8)×Int) ⊕ (List (List UInt8))) :=
 if (decide (bq<(aL.length:Int)))=true then (ck ((0:Int)<=bq/\bq<(aL.length:Int)) (if ((nth aL bq.toNat) != r6)=true then (ck (gJ.length+([nth aL bq.toNat]:List (List UInt8)).length<=1000000000) (ck (cR (bq+1)) (some (.inl (gJ++([nth aL bq.toNat]:List (List UInt8)),bq+1))))) else ck (cR (bq+1)) (some (.inl (gJ,bq+1))))) else some (.inr gJ)
def gV (aL:List (List UInt8)) (r6:List UInt8):Option (List (List UInt8)) :=
 loop (λs=>mh aL r6 s.1 s.2) (([]:List (List UInt8)),0)
def mZ:Option ((List (Int×aq))×(List (Int×Sub))×(List (Int×Bool))×(List ((List UInt8)×Int))×(List (Int×Int))) :=
 some (([]:List (Int×aq)),([]:List (Int×Sub)),([]:List (Int×Bool)),([]:List ((List UInt8)×Int)),([]:List (Int×Int)))
def oD (az:List Event) (F5:Int):Option ((List Event)×Int) :=
 some (az,F5)
def fm (v1:Sub) (v2:Event) (bt:List Int) (bh:List Int) (aS:List (Int×aq)) (aR:List (Int×Sub)) (bZ:List (Int×Bool)) (ch:List ((List UInt8)×Int)) (bP:List (Int×Int)):Option (Sub×(List ((List UInt8)×Int))) :=
 if (v2.kind==5)=true then ((eN v1.numbers v2.number).bind λy1=>some ((⟨v1.id,v1.aw,v1.since,v1.vP,y1,v1.cz,v1.bO,v1.family⟩:Sub),dj ch v2.number v2.sub)) else if (v2.kind==6)=true then ((gV v1.numbers v2.number).bind λy2=>some ((⟨v1.id,v1.aw,v1.since,v1.vP,y2,v1.cz,v1.bO,v1.family⟩:Sub),fx ch v2.number)) else if (v2.kind==7)=true then some ((⟨v1.id,v1.aw,v1.since,v2.name,v1.numbers,v1.cz,v1.bO,v1.family⟩:Sub),ch) else if (v2.kind==8)=true then ((eN v1.cz v2.name).bind λy3=>some ((⟨v1.id,v1.aw,v1.since,v1.vP,v1.numbers,y3,v1.bO,v1.family⟩:Sub),ch)) else if (v2.kind==9)=true then ((gV v1.cz v2.name).bind λy4=>some ((⟨v1.id,v1.aw,v1.since,v1.vP,v1.numbers,y4,v1.bO,v1.family⟩:Sub),ch)) else if (v2.kind==10)=true then some ((⟨v1.id,v1.aw,v1.since,v1.vP,v1.numbers,v1.cz,true,v1.family⟩:Sub),ch) else if (v2.kind==11)=true then some ((⟨v1.id,v1.aw,v1.since,v1.vP,v1.numbers,v1.cz,false,v1.family⟩:Sub),ch) else if (v2.kind==12)=true then some ((⟨v1.id,v1.aw,v1.since,v1.vP,v1.numbers,v1.cz,v1.bO,true⟩:Sub),ch) else if (v2.kind==13)=true then some ((⟨v1.id,v1.aw,v1.since,v1.vP,v1.numbers,v1.cz,v1.bO,false⟩:Sub),ch) else some (v1,ch)
def dx (v1:Event) (bh:List Int) (aS:List (Int×aq)) (aR:List (Int×Sub)) (bZ:List (Int×Bool)) (ch:List ((List UInt8)×Int)) (bP:List (Int×Int)) (Ar:List Int):Option ((List Int)×(List Int)×(List (Int×aq))×(List (Int×Sub))×(List (Int×Bool))×(List ((List UInt8)×Int))×(List (Int×Int))) :=
 some (Ar,bh,dj aS v1.aw (⟨v1.aw,v1.at_,v1.value,(v1.name==([112,114,101,112,97,105,100]:List UInt8)),false,([]:List Int)⟩:aq),aR,bZ,ch,bP)
def dy (v1:Event) (bt:List Int) (aS:List (Int×aq)) (aR:List (Int×Sub)) (bZ:List (Int×Bool)) (ch:List ((List UInt8)×Int)) (bP:List (Int×Int)) (pr:List Int):Option ((List Int)×(List Int)×(List (Int×aq))×(List (Int×Sub))×(List (Int×Bool))×(List ((List UInt8)×Int))×(List (Int×Int))) :=
 ck (cR (((aC bP v1.aw).getD 0)+1)) (some (bt,pr,aS,dj aR v1.sub (⟨v1.sub,v1.aw,v1.at_,v1.name,([]:List (List UInt8)),([]:List (List UInt8)),false,false⟩:Sub),dj bZ v1.sub true,ch,dj bP v1.aw (((aC bP v1.aw).getD 0)+1)))
def cH (v1:Event) (bt:List Int) (bh:List Int) (aS:List (Int×aq)) (aR:List (Int×Sub)) (bZ:List (Int×Bool)) (bP:List (Int×Int)) (yb:List ((List UInt8)×Int)):Option ((List Int)×(List Int)×(List (Int×aq))×(List (Int×Sub))×(List (Int×Bool))×(List ((List UInt8)×Int))×(List (Int×Int))) :=
 ck (cR (((aC bP ((aC aR v1.sub).getD (⟨0,0,0,([]:List UInt8),([]:List (List UInt8)),([]:List (List UInt8)),false,false⟩:Sub)).aw).getD 0) - 1)) (some (bt,bh,aS,fx aR v1.sub,bZ,yb,dj bP ((aC aR v1.sub).getD (⟨0,0,0,([]:List UInt8),([]:List (List UInt8)),([]:List (List UInt8)),false,false⟩:Sub)).aw (((aC bP ((aC aR v1.sub).getD (⟨0,0,0,([]:List UInt8),([]:List (List UInt8)),([]:List (List UInt8)),false,false⟩:Sub)).aw).getD 0) - 1)))
def e8 (v1:Event) (bt:List Int) (bh:List Int) (aS:List (Int×aq)) (aR:List (Int×Sub)) (bZ:List (Int×Bool)) (bP:List (Int×Int)) (pt:Int) (mi:List ((List UInt8)×Int)):Option ((Int×(List ((List UInt8)×Int))) ⊕ ((List Int)×(List Int)×(List (Int×aq))×(List (Int×Sub))×(List (Int×Bool))×(List ((List UInt8)×Int))×(List (Int×Int)))) :=
 if (decide (pt<((((aC aR v1.sub).getD (⟨0,0,0,([]:List UInt8),([]:List (List UInt8)),([]:List (List UInt8)),false,false⟩:Sub)).numbers).length:Int)))=true then (ck ((0:Int)<=pt/\pt<((((aC aR v1.sub).getD (⟨0,0,0,([]:List UInt8),([]:List (List UInt8)),([]:List (List UInt8)),false,false⟩:Sub)).numbers).length:Int)) (ck (cR (pt+1)) (some (.inl (pt+1,fx mi (nth ((aC aR v1.sub).getD (⟨0,0,0,([]:List UInt8),([]:List (List UInt8)),([]:List (List UInt8)),false,false⟩:Sub)).numbers pt.toNat)))))) else (cH v1 bt bh aS aR bZ bP mi).map (λz=>.inr z)
def dz (v1:Event) (bt:List Int) (bh:List Int) (aS:List (Int×aq)) (aR:List (Int×Sub)) (bZ:List (Int×Bool)) (ch:List ((List UInt8)×Int)) (bP:List (Int×Int)) (Cu:Bool):Option ((List Int)×(List Int)×(List (Int×aq))×(List (Int×Sub))×(List (Int×Bool))×(List ((List UInt8)×Int))×(List (Int×Int))) :=
 if Cu=true then some (bt,bh,aS,aR,bZ,ch,bP) else if ((aC aR v1.sub).isSome)=true then ((fm ((aC aR v1.sub).getD (⟨0,0,0,([]:List UInt8),([]:List (List UInt8)),([]:List (List UInt8)),false,false⟩:Sub)) v1 bt bh aS aR bZ ch bP).bind λy3=>some (bt,bh,aS,dj aR v1.sub y3.1,bZ,y3.2,bP)) else some (bt,bh,aS,aR,bZ,ch,bP)
def eY (v1:Event) (bt:List Int) (bh:List Int) (aS:List (Int×aq)) (aR:List (Int×Sub)) (bZ:List (Int×Bool)) (ch:List ((List UInt8)×Int)) (bP:List (Int×Int)):Option ((List Int)×(List Int)×(List (Int×aq))×(List (Int×Sub))×(List (Int×Bool))×(List ((List UInt8)×Int))×(List (Int×Int))) :=
 if (v1.kind==1)=true then (if (!(aC aS v1.aw).isSome)=true then ((fF bt v1.aw).bind λy1=>dx v1 bh aS aR bZ ch bP y1) else dx v1 bh aS aR bZ ch bP bt) else if (v1.kind==2)=true then some (bt,bh,dj aS v1.aw (⟨((aC aS v1.aw).getD (⟨0,0,0,false,false,([]:List Int)⟩:aq)).id,((aC aS v1.aw).getD (⟨0,0,0,false,false,([]:List Int)⟩:aq)).since,((aC aS v1.aw).getD (⟨0,0,0,false,false,([]:List Int)⟩:aq)).anchor,((aC aS v1.aw).getD (⟨0,0,0,false,false,([]:List Int)⟩:aq)).fO,true,((aC aS v1.aw).getD (⟨0,0,0,false,false,([]:List Int)⟩:aq)).bm⟩:aq),aR,bZ,ch,bP) else if (v1.kind==3)=true then (if (!((aC bZ v1.sub).getD false))=true then ((fF bh v1.sub).bind λy2=>dy v1 bt aS aR bZ ch bP y2) else dy v1 bt aS aR bZ ch bP bh) else if (v1.kind==4)=true then (loop (λs=>e8 v1 bt bh aS aR bZ bP s.1 s.2) (0,ch)) else if (v1.kind==14)=true then (dz v1 bt bh aS aR bZ ch bP (v1.kind==14)) else dz v1 bt bh aS aR bZ ch bP (v1.kind==15)
def iX (e:Event) (zO:List Int) (zP:List Int) (aR:List (Int×aq)) (bZ:List (Int×Sub)) (ch:List (Int×Bool)) (bP:List ((List UInt8)×Int)) (zQ:List (Int×Int)):Option ((List Int)×(List Int)×(List (Int×aq))×(List (Int×Sub))×(List (Int×Bool))×(List ((List UInt8)×Int))×(List (Int×Int))) :=
 (eY e zO zP aR bZ ch bP zQ).bind λy1=>some (y1.1,y1.2.1,y1.2.2.1,y1.2.2.2.1,y1.2.2.2.2.1,y1.2.2.2.2.2.1,y1.2.2.2.2.2.2)
def jA (nz:List Event) (uO:Int) (aY:Int) (pw:List Int) (fA:List Int) (bV:List (Int×aq)) (As:List (Int×Sub)) (mi:List (Int×Bool)) (Au:List ((List UInt8)×Int)) (Av:List (Int×Int)):Option ((Int×List Int×List Int×(List (Int×aq))×(List (Int×Sub))×(List (Int×Bool))×(List ((List UInt8)×Int))×(List (Int×Int))) ⊕ ((List Int)×(List Int)×(List (Int×aq))×(List (Int×Sub))×(List (Int×Bool))×(List ((List UInt8)×Int))×(List (Int×Int)))) :=
 if (decide (aY<(nz.length:Int)))=true then (ck ((0:Int)<=aY/\aY<(nz.length:Int)) (if (decide (((nth nz aY.toNat).at_)<=uO))=true then ((iX (nth nz aY.toNat) pw fA bV As mi Au Av).bind λy1=>ck (cR (aY+1)) (some (.inl (aY+1,y1.1,y1.2.1,y1.2.2.1,y1.2.2.2.1,y1.2.2.2.2.1,y1.2.2.2.2.2.1,y1.2.2.2.2.2.2)))) else ck (cR (aY+1)) (some (.inl (aY+1,pw,fA,bV,As,mi,Au,Av))))) else some (.inr (pw,fA,bV,As,mi,Au,Av))
def gW (nz:List Event) (uO:Int) (zO:List Int) (zP:List Int) (aR:List (Int×aq)) (bZ:List (Int×Sub)) (ch:List (Int×Bool)) (bP:List ((List UInt8)×Int)) (zQ:List (Int×Int)):Option ((List Int)×(List Int)×(List (Int×aq))×(List (Int×Sub))×(List (Int×Bool))×(List ((List UInt8)×Int))×(List (Int×Int))) :=
 loop (λs=>jA nz uO s.1 s.2.1 s.2.2.1 s.2.2.2.1 s.2.2.2.2.1 s.2.2.2.2.2.1 s.2.2.2.2.2.2.1 s.2.2.2.2.2.2.2) (0,zO,zP,aR,bZ,ch,bP,zQ)
def ed (bt:List Int) (aS:List (Int×aq)) (pz:List Sub) (mj:List (Int×(List Int))) (fS:Int) (wU:List aq):Option ((Int×List aq) ⊕ cj) :=
 if (decide (fS<(bt.length:Int)))=true then (ck ((0:Int)<=fS/\fS<(bt.length:Int)) (ck (wU.length+([(⟨((aC aS (nth bt fS.toNat)).getD (⟨0,0,0,false,false,([]:List Int)⟩:aq)).id,((aC aS (nth bt fS.toNat)).getD (⟨0,0,0,false,false,([]:List Int)⟩:aq)).since,((aC aS (nth bt fS.toNat)).getD (⟨0,0,0,false,false,([]:List Int)⟩:aq)).anchor,((aC aS (nth bt fS.toNat)).getD (⟨0,0,0,false,false,([]:List Int)⟩:aq)).fO,((aC aS (nth bt fS.toNat)).getD (⟨0,0,0,false,false,([]:List Int)⟩:aq)).closed,(aC mj (nth bt fS.toNat)).getD ([]:List Int)⟩:aq)]:List aq).length<=1000000000) (ck (cR (fS+1)) (some (.inl (fS+1,wU++([(⟨((aC aS (nth bt fS.toNat)).getD (⟨0,0,0,false,false,([]:List Int)⟩:aq)).id,((aC aS (nth bt fS.toNat)).getD (⟨0,0,0,false,false,([]:List Int)⟩:aq)).since,((aC aS (nth bt fS.toNat)).getD (⟨0,0,0,false,false,([]:List Int)⟩:aq)).anchor,((aC aS (nth bt fS.toNat)).getD (⟨0,0,0,false,false,([]:List Int)⟩:aq)).fO,((aC aS (nth bt fS.toNat)).getD (⟨0,0,0,false,false,([]:List Int)⟩:aq)).closed,(aC mj (nth bt fS.toNat)).getD ([]:List Int)⟩:aq)]:List aq))))))) else some (.inr (⟨wU,pz⟩:cj))
def cU (bt:List Int) (aS:List (Int×aq)) (pz:List Sub) (mj:List (Int×(List Int))):Option cj :=
 loop (λs=>ed bt aS pz mj s.1 s.2) (0,([]:List aq))
def cV (bt:List Int) (bh:List Int) (aS:List (Int×aq)) (aR:List (Int×Sub)) (dM:Int) (jU:List Sub) (fT:List (Int×(List Int))):Option ((Int×List Sub×(List (Int×(List Int)))) ⊕ cj) :=
 if (decide (dM<(bh.length:Int)))=true then (ck ((0:Int)<=dM/\dM<(bh.length:Int)) (if (!(aC aR (nth bh dM.toNat)).isSome)=true then (ck (cR (dM+1)) (some (.inl (dM+1,jU,fT)))) else ck (((aC fT ((aC aR (nth bh dM.toNat)).getD (⟨0,0,0,([]:List UInt8),([]:List (List UInt8)),([]:List (List UInt8)),false,false⟩:Sub)).aw).getD ([]:List Int)).length+([nth bh dM.toNat]:List Int).length<=1000000000) (ck (jU.length+([(aC aR (nth bh dM.toNat)).getD (⟨0,0,0,([]:List UInt8),([]:List (List UInt8)),([]:List (List UInt8)),false,false⟩:Sub)]:List Sub).length<=1000000000) (ck (cR (dM+1)) (some (.inl (dM+1,jU++([(aC aR (nth bh dM.toNat)).getD (⟨0,0,0,([]:List UInt8),([]:List (List UInt8)),([]:List (List UInt8)),false,false⟩:Sub)]:List Sub),dj fT ((aC aR (nth bh dM.toNat)).getD (⟨0,0,0,([]:List UInt8),([]:List (List UInt8)),([]:List (List UInt8)),false,false⟩:Sub)).aw (((aC fT ((aC aR (nth bh dM.toNat)).getD (⟨0,0,0,([]:List UInt8),([]:List (List UInt8)),([]:List (List UInt8)),false,false⟩:Sub)).aw).getD ([]:List Int))++([nth bh dM.toNat]:List Int))))))))) else (cU bt aS jU fT).map (λz=>.inr z)
def eR (bt:List Int) (bh:List Int) (aS:List (Int×aq)) (aR:List (Int×Sub)) (bZ:List (Int×Bool)) (ch:List ((List UInt8)×Int)) (bP:List (Int×Int)):Option cj :=
 loop (λs=>cV bt bh aS aR s.1 s.2.1 s.2.2) (0,([]:List Sub),([]:List (Int×(List Int))))
def ey (az:List Event) (F5:Int):Option cj :=
 (mZ).bind λy1=>(oD az F5).bind λy2=>(gW y2.1 y2.2 ([]:List Int) ([]:List Int) y1.1 y1.2.1 y1.2.2.1 y1.2.2.2.1 y1.2.2.2.2).bind λy3=>(eR y3.1 y3.2.1 y3.2.2.1 y3.2.2.2.1 y3.2.2.2.2.1 y3.2.2.2.2.2.1 y3.2.2.2.2.2.2).bind λy4=>some y4
def gy (y1:cj) (j3:Int) (uP:Int) (cq:List ((List UInt8)×Int)):Option ((Int×(List ((List UInt8)×Int))) ⊕ ((Int×(List ((List UInt8)×Int))) ⊕ (List ((List UInt8)×Int)))) :=
 if (decide (uP<(((nth y1.bm j3.toNat).numbers).length:Int)))=true then (ck ((0:Int)<=uP/\uP<(((nth y1.bm j3.toNat).numbers).length:Int)) (ck (cR (uP+1)) (some (.inl (uP+1,dj cq (nth (nth y1.bm j3.toNat).numbers uP.toNat) (nth y1.bm j3.toNat).id))))) else ck (cR (j3+1)) (some (.inr (.inl (j3+1,cq))))
def gz (y1:cj) (j3:Int) (dE:List ((List UInt8)×Int)):Option ((Int×(List ((List UInt8)×Int))) ⊕ (List ((List UInt8)×Int))) :=
 if (decide (j3<(y1.bm.length:Int)))=true then (ck ((0:Int)<=j3/\j3<(y1.bm.length:Int)) (loop (λs=>gy y1 j3 s.1 s.2) (0,dE))) else some (.inr dE)
def iY (az:List Event) (F5:Int):Option (List ((List UInt8)×Int)) :=
 (ey az F5).bind λy1=>loop (λs=>gz y1 s.1 s.2) (0,([]:List ((List UInt8)×Int)))
def lU (az:List Event) (eJ:List UInt8) (It:Int):Option (Int×Bool) :=
 (iY az It).bind λy1=>some ((aC y1 eJ).getD 0,(aC y1 eJ).isSome)
def jB (wV:Int) (y1:cj) (dY:Int):Option (Int ⊕ (Sub×Bool)) :=
 if (decide (dY<(y1.bm.length:Int)))=true then (ck ((0:Int)<=dY/\dY<(y1.bm.length:Int)) (if (((nth y1.bm dY.toNat).id)==wV)=true then some (.inr (nth y1.bm dY.toNat,true)) else ck (cR (dY+1)) (some (.inl (dY+1))))) else some (.inr ((⟨0,0,0,([]:List UInt8),([]:List (List UInt8)),([]:List (List UInt8)),false,false⟩:Sub),false))
def ml (az:List Event) (wV:Int) (It:Int):Option (Sub×Bool) :=
 (ey az It).bind λy1=>loop (λs=>jB wV y1 s) 0
def ik (TD:jR):Option (Sub×Bool) :=
 (fR TD.source).bind λy1=>(lU TD.events y1 TD.source.record.start).bind λy2=>if (!y2.2)=true then some ((⟨0,0,0,([]:List UInt8),([]:List (List UInt8)),([]:List (List UInt8)),false,false⟩:Sub),false) else (ml TD.events y2.1 TD.source.record.start).bind λy3=>some (y3.1,y3.2)
def jj (bU:dD) (wV:Int) (Fe:Sub):Option aA :=
 some (⟨wV,bU.record.kind,Fe.aw,Fe.id,bU.record.a,bU.record.b,bU.record.start,bU.record.cJ,bU.record.cT,bU.record.bI,bU.record.source,bU.record.aZ⟩:aA)
def fU (az:List Event) (RD:aa) (Sf:Int):Option (aA×Int) :=
 (dU RD).bind λy1=>if (y1 != 0)=true then some ((⟨0,0,0,0,([]:List UInt8),([]:List UInt8),0,0,0,false,0,0⟩:aA),y1) else if (RD.part != 0)=true then some ((⟨0,0,0,0,([]:List UInt8),([]:List UInt8),0,0,0,false,0,0⟩:aA),8) else (ik (⟨(⟨RD⟩:dD),az⟩:jR)).bind λy2=>if (!y2.2)=true then some ((⟨0,0,0,0,([]:List UInt8),([]:List UInt8),0,0,0,false,0,0⟩:aA),11) else if (y2.1.bO && (!RD.bI))=true then some ((⟨0,0,0,0,([]:List UInt8),([]:List UInt8),0,0,0,false,0,0⟩:aA),16) else (jj (⟨RD⟩:dD) Sf y2.1).bind λy3=>some (y3,0)
def kt (az:List Event) (iH:ah):Option ((List Range)×(List aa)×(List Head)×(List aA)×(List ak)×(List Event)×(List aa)) :=
 (iz iH.aM.seen).bind λy1=>(dX iH.aM.open_).bind λy2=>(kS iH.aM.aT).bind λy3=>(s7 iH.usages).bind λy4=>(nX iH.bu).bind λy5=>some (y1,y2,y3,y4,y5,az,iH.aP)
def dq (aQ:List aa) (bh:List Event) (ba:List aA) (de:List aa) (bq:Int):Option ((List aA×List aa×Int) ⊕ ((List aA)×(List aa))) :=
 if (decide (bq<(aQ.length:Int)))=true then (ck ((0:Int)<=bq/\bq<(aQ.length:Int)) (ck (cR ((ba.length:Int)+1)) ((fU bh (nth aQ bq.toNat) ((ba.length:Int)+1)).bind λy1=>if (y1.2==0)=true then (ck (ba.length+([y1.1]:List aA).length<=1000000000) (ck (cR (bq+1)) (some (.inl (ba++([y1.1]:List aA),de,bq+1))))) else ck (de.length+([nth aQ bq.toNat]:List aa).length<=1000000000) (ck (cR (bq+1)) (some (.inl (ba,de++([nth aQ bq.toNat]:List aa),bq+1))))))) else some (.inr (ba,de))
def fG (aQ:List aa) (bG:List Range) (iZ:List aa) (ja:List Head) (bh:List Event) (aU:List aA) (gN:List aa) (uQ:List ak):Option ((List aA)×(List aa)) :=
 loop (λs=>dq aQ bh s.1 s.2.1 s.2.2) (aU,gN,0)
def na (v0:List Event) (v1:ah) (v2:Batch) (v3:gC):Option (ah×Int) :=
 (sn v1.aM v2 v3).bind λy1=>if (y1.2.2.2 != 0)=true then some ((⟨(⟨([]:List Range),([]:List aa),([]:List Head)⟩:aH),([]:List aA),([]:List aa),([]:List ak)⟩:ah),y1.2.2.2) else (kt v0 v1).bind λy2=>(dX y2.2.2.2.2.2.2).bind λy3=>ck (y2.2.2.2.2.1.length+y1.2.2.1.length<=1000000000) ((fG y1.2.1 y1.1.seen y1.1.open_ y1.1.aT y2.2.2.2.2.2.1 y2.2.2.2.1 y3 (y2.2.2.2.2.1++y1.2.2.1)).bind λy4=>some ((⟨y1.1,y4.1,y4.2,y2.2.2.2.2.1++y1.2.2.1⟩:ah),0))
def vT (aW:List Range) (nY:Int) (aY:Int):Option ((Int×Int) ⊕ Int) :=
 if (decide (aY<(aW.length:Int)))=true then (ck ((0:Int)<=aY/\aY<(aW.length:Int)) (ck (cR ((nth aW aY.toNat).lz - (nth aW aY.toNat).from_)) (ck (cR (((nth aW aY.toNat).lz - (nth aW aY.toNat).from_)+1)) (ck (cR (nY+(((nth aW aY.toNat).lz - (nth aW aY.toNat).from_)+1))) (ck (cR (aY+1)) (some (.inl (nY+(((nth aW aY.toNat).lz - (nth aW aY.toNat).from_)+1),aY+1)))))))) else some (.inr nY)
def vi (aW:List Range):Option Int :=
 loop (λs=>vT aW s.1 s.2) (0,0)
def iB (du:ah) (qu:Int):Option b8 :=
 (vi du.aM.seen).bind λy1=>ck (cR (y1-(du.usages.length:Int))) (ck (cR ((y1-(du.usages.length:Int)) - (du.aP.length:Int))) (ck (cR (((y1-(du.usages.length:Int)) - (du.aP.length:Int)) - (du.aM.open_.length:Int))) (some (⟨qu,(du.usages.length:Int),((y1-(du.usages.length:Int)) - (du.aP.length:Int)) - (du.aM.open_.length:Int),(du.bu.length:Int),(du.aP.length:Int),(du.aM.open_.length:Int)⟩:b8))))
def pA (du:ah) (uR:Int) (bV:Int):Option ((Int×Int) ⊕ b8) :=
 if (decide (uR<(du.aM.aT.length:Int)))=true then (ck ((0:Int)<=uR/\uR<(du.aM.aT.length:Int)) (ck (cR (bV+((nth du.aM.aT uR.toNat).count))) (ck (cR (uR+1)) (some (.inl (uR+1,bV+((nth du.aM.aT uR.toNat).count))))))) else (iB du bV).map (λz=>.inr z)
def il (du:ah):Option b8 :=
 loop (λs=>pA du s.1 s.2) (0,0)
def fY (az:List Event) (iH:ah):Option ((List Range)×(List aa)×(List Head)×(List aA)×(List ak)×(List Event)×(List aa)) :=
 (iz iH.aM.seen).bind λy1=>(dX iH.aM.open_).bind λy2=>(kS iH.aM.aT).bind λy3=>(s7 iH.usages).bind λy4=>(nX iH.bu).bind λy5=>some (y1,y2,y3,y4,y5,az,iH.aP)
def cW (aQ:List aa) (bh:List Event) (ba:List aA) (bq:Int) (hG:List aa):Option ((List aA×Int×List aa) ⊕ ((List aA)×(List aa))) :=
 if (decide (bq<(aQ.length:Int)))=true then (ck ((0:Int)<=bq/\bq<(aQ.length:Int)) (ck (cR ((ba.length:Int)+1)) ((fU bh (nth aQ bq.toNat) ((ba.length:Int)+1)).bind λy1=>if (y1.2==0)=true then (ck (ba.length+([y1.1]:List aA).length<=1000000000) (ck (cR (bq+1)) (some (.inl (ba++([y1.1]:List aA),bq+1,hG))))) else ck (hG.length+([nth aQ bq.toNat]:List aa).length<=1000000000) (ck (cR (bq+1)) (some (.inl (ba,bq+1,hG++([nth aQ bq.toNat]:List aa)))))))) else some (.inr (ba,hG))
def eS (aQ:List aa) (bG:List Range) (iZ:List aa) (ja:List Head) (bt:List ak) (bh:List Event) (aU:List aA) (gN:List aa):Option ((List aA)×(List aa)) :=
 loop (λs=>cW aQ bh s.1 s.2.1 s.2.2) (aU,0,gN)
def gX (az:List Event) (iH:ah):Option ah :=
 (fY az iH).bind λy1=>(eS y1.2.2.2.2.2.2 y1.1 y1.2.1 y1.2.2.1 y1.2.2.2.2.1 y1.2.2.2.2.2.1 y1.2.2.2.1 ([]:List aa)).bind λy2=>some (⟨(⟨y1.1,y1.2.1,y1.2.2.1⟩:aH),y2.1,y2.2,y1.2.2.2.2.1⟩:ah)
def vU (aW:List Range) (aY:Int):Option (Int ⊕ Bool) :=
 if (decide (aY<(aW.length:Int)))=true then (ck ((0:Int)<=aY/\aY<(aW.length:Int)) ((gD (nth aW aY.toNat).source (nth aW aY.toNat).from_).bind λy1=>(ct (!(!y1)) (gD (nth aW aY.toNat).source (nth aW aY.toNat).lz)).bind λy2=>if (((!y1) || (!y2)) || (decide ((nth aW aY.toNat).from_ > (nth aW aY.toNat).lz)))=true then some (.inr false) else if (decide (aY > 0))=true then (ck (cR (aY-1)) (ck ((0:Int)<=(aY-1)/\(aY-1)<(aW.length:Int)) (ck (((!(decide ((nth aW (aY-1).toNat).source > (nth aW aY.toNat).source))) && (((nth aW (aY-1).toNat).source)==((nth aW aY.toNat).source)))=true->(cR (((nth aW (aY-1).toNat).lz)+1))) (if ((decide ((nth aW (aY-1).toNat).source > (nth aW aY.toNat).source)) || ((((nth aW (aY-1).toNat).source)==((nth aW aY.toNat).source)) && (decide ((((nth aW (aY-1).toNat).lz)+1)>=((nth aW aY.toNat).from_)))))=true then some (.inr false) else ck (cR (aY+1)) (some (.inl (aY+1))))))) else ck (cR (aY+1)) (some (.inl (aY+1))))) else some (.inr true)
def qX (aW:List Range):Option Bool :=
 loop (λs=>vU aW s) 0
def xm (zi:List aa) (Cv:List aa) (bB:Int):Option (Int ⊕ Bool) :=
 if (decide (bB<(zi.length:Int)))=true then (ck ((0:Int)<=bB/\bB<(zi.length:Int)) (ck ((0:Int)<=bB/\bB<(Cv.length:Int)) (if (!(eI (aa.bR (nth zi bB.toNat)) (aa.bR (nth Cv bB.toNat))))=true then some (.inr false) else ck (cR (bB+1)) (some (.inl (bB+1)))))) else some (.inr true)
def wW (zi:List aa) (Cv:List aa):Option Bool :=
 if ((zi.length:Int) != (Cv.length:Int))=true then some false else loop (λs=>xm zi Cv s) 0
def nf (bA:aH) (gE:List (bF×Bool)):Option Bool :=
 (mY ([]:List aa) bA.open_).bind λy1=>(ct ((y1.1.length:Int)==0) (wW y1.2 bA.open_)).bind λy2=>some (((y1.1.length:Int)==0) && y2)
def vV (bA:aH) (bB:Int) (cF:List (bF×Bool)):Option ((Int×(List (bF×Bool))) ⊕ Bool) :=
 if (decide (bB<(bA.open_.length:Int)))=true then (ck ((0:Int)<=bB/\bB<(bA.open_.length:Int)) ((ct (!(((nth bA.open_ bB.toNat).part)==0)) (dU (nth bA.open_ bB.toNat))).bind λy3=>(ct (!(((((nth bA.open_ bB.toNat).part)==0) || (y3 != 0)) || ((aC cF (⟨(nth bA.open_ bB.toNat).source,(nth bA.open_ bB.toNat).aZ⟩:bF)).getD false))) (uM bA.seen (nth bA.open_ bB.toNat).source (nth bA.open_ bB.toNat).aZ)).bind λy4=>if ((((((nth bA.open_ bB.toNat).part)==0) || (y3 != 0)) || ((aC cF (⟨(nth bA.open_ bB.toNat).source,(nth bA.open_ bB.toNat).aZ⟩:bF)).getD false)) || (!y4))=true then some (.inr false) else ck (cR (bB+1)) (some (.inl (bB+1,dj cF (⟨(nth bA.open_ bB.toNat).source,(nth bA.open_ bB.toNat).aZ⟩:bF) true))))) else (nf bA cF).map (λz=>.inr z)
def qY (bA:aH):Option Bool :=
 loop (λs=>vV bA s.1 s.2) (0,([]:List (bF×Bool)))
def uS (v0:List Head) (bH:Int) (dE:List (Int×Int)):Option ((Int×(List (Int×Int))) ⊕ (List (Int×Int))) :=
 if (decide (bH<(v0.length:Int)))=true then (ck ((0:Int)<=bH/\bH<(v0.length:Int)) (ck ((0:Int)<=bH/\bH<=(v0.length:Int)) ((iG (⟨([]:List Range),([]:List aa),v0.take bH.toNat⟩:aH) (nth v0 bH.toNat).source).bind λy1=>if ((((((((!(eI (Head.bR (nth v0 bH.toNat)) (Head.bR (⟨(nth v0 bH.toNat).source,y1,(nth v0 bH.toNat).format,(nth v0 bH.toNat).count⟩:Head)))) || (decide ((nth v0 bH.toNat).source<1))) || (decide ((nth v0 bH.toNat).source > 99))) || (decide ((nth v0 bH.toNat).format<1))) || (decide (((nth v0 bH.toNat).format)>=4))) || (decide ((nth v0 bH.toNat).count<0))) || (decide ((nth v0 bH.toNat).count > 4096))) || (decide ((nth v0 bH.toNat).number > 999999999)))=true then none else ck (cR (((aC dE (nth v0 bH.toNat).source).getD 0)+((nth v0 bH.toNat).count))) (ck (cR (bH+1)) (some (.inl (bH+1,dj dE (nth v0 bH.toNat).source (((aC dE (nth v0 bH.toNat).source).getD 0)+((nth v0 bH.toNat).count))))))))) else some (.inr dE)
def mm (v0:List Head):Option (List (Int×Int)) :=
 loop (λs=>uS v0 s.1 s.2) (0,([]:List (Int×Int)))
def rA (v0:List Head) (bH:Int) (dE:List (Int×Int)):Option ((Int×(List (Int×Int))) ⊕ Unit) :=
 if (decide (bH<(v0.length:Int)))=true then (ck ((0:Int)<=bH/\bH<(v0.length:Int)) (ck ((0:Int)<=bH/\bH<=(v0.length:Int)) ((iG (⟨([]:List Range),([]:List aa),v0.take bH.toNat⟩:aH) (nth v0 bH.toNat).source).bind λy1=>if ((((((((!(eI (Head.bR (nth v0 bH.toNat)) (Head.bR (⟨(nth v0 bH.toNat).source,y1,(nth v0 bH.toNat).format,(nth v0 bH.toNat).count⟩:Head)))) || (decide ((nth v0 bH.toNat).source<1))) || (decide ((nth v0 bH.toNat).source > 99))) || (decide ((nth v0 bH.toNat).format<1))) || (decide (((nth v0 bH.toNat).format)>=4))) || (decide ((nth v0 bH.toNat).count<0))) || (decide ((nth v0 bH.toNat).count > 4096))) || (decide ((nth v0 bH.toNat).number > 999999999)))=true then some (.inr ()) else ck (cR (((aC dE (nth v0 bH.toNat).source).getD 0)+((nth v0 bH.toNat).count))) (ck (cR (bH+1)) (some (.inl (bH+1,dj dE (nth v0 bH.toNat).source (((aC dE (nth v0 bH.toNat).source).getD 0)+((nth v0 bH.toNat).count))))))))) else none
def pB (v0:List Head):Option Unit :=
 loop (λs=>rA v0 s.1 s.2) (0,([]:List (Int×Int)))
def uT (bA:aH) (y1:(List (Int×Int))) (dG:Int) (bV:List (Int×Int)):Option ((Int×(List (Int×Int))) ⊕ Bool) :=
 if (decide (dG<(bA.seen.length:Int)))=true then (ck ((0:Int)<=dG/\dG<(bA.seen.length:Int)) (ck (cR ((nth bA.seen dG.toNat).lz - (nth bA.seen dG.toNat).from_)) (ck (cR (((nth bA.seen dG.toNat).lz - (nth bA.seen dG.toNat).from_)+1)) (ck (cR (((aC bV (nth bA.seen dG.toNat).source).getD 0)+(((nth bA.seen dG.toNat).lz - (nth bA.seen dG.toNat).from_)+1))) (if (decide (((aC (dj bV (nth bA.seen dG.toNat).source (((aC bV (nth bA.seen dG.toNat).source).getD 0)+(((nth bA.seen dG.toNat).lz - (nth bA.seen dG.toNat).from_)+1))) (nth bA.seen dG.toNat).source).getD 0) > ((aC y1 (nth bA.seen dG.toNat).source).getD 0)))=true then some (.inr false) else ck (cR (dG+1)) (some (.inl (dG+1,dj bV (nth bA.seen dG.toNat).source (((aC bV (nth bA.seen dG.toNat).source).getD 0)+(((nth bA.seen dG.toNat).lz - (nth bA.seen dG.toNat).from_)+1)))))))))) else some (.inr true)
def tR (bA:aH):Option Bool :=
 if ((mm bA.aT).isSome)=true then ((mm bA.aT).bind λy1=>(ct (!(!true)) (qX bA.seen)).bind λy2=>(ct (!((!true) || (!y2))) (qY bA)).bind λy3=>if (((!true) || (!y2)) || (!y3))=true then some false else loop (λs=>uT bA y1 s.1 s.2) (0,([]:List (Int×Int)))) else (pB bA.aT).bind λy4=>(ct (!(!false)) (qX bA.seen)).bind λy5=>(ct (!((!false) || (!y5))) (qY bA)).bind λy6=>some false
def lk (vj:aA):Option aa :=
 some (⟨vj.source,vj.aZ,vj.kind,vj.a,vj.b,vj.start,vj.cJ,0,0,false,vj.cT,vj.bI⟩:aa)
def qb (aL:List aA) (eD:Int):Option (Int ⊕ Bool) :=
 if (decide (eD<(aL.length:Int)))=true then (ck ((0:Int)<=eD/\eD<(aL.length:Int)) (ck (cR (eD+1)) ((ct (!((((nth aL eD.toNat).id != (eD+1)) || (decide ((if (nth aL eD.toNat).sub<(nth aL eD.toNat).aw then (nth aL eD.toNat).sub else (nth aL eD.toNat).aw)<1))) || (decide ((if (nth aL eD.toNat).sub > (nth aL eD.toNat).aw then (nth aL eD.toNat).sub else (nth aL eD.toNat).aw) > 9999)))) (lk (nth aL eD.toNat))).bind λy1=>(ct (!((((nth aL eD.toNat).id != (eD+1)) || (decide ((if (nth aL eD.toNat).sub<(nth aL eD.toNat).aw then (nth aL eD.toNat).sub else (nth aL eD.toNat).aw)<1))) || (decide ((if (nth aL eD.toNat).sub > (nth aL eD.toNat).aw then (nth aL eD.toNat).sub else (nth aL eD.toNat).aw) > 9999)))) (dU y1)).bind λy2=>if (((((nth aL eD.toNat).id != (eD+1)) || (decide ((if (nth aL eD.toNat).sub<(nth aL eD.toNat).aw then (nth aL eD.toNat).sub else (nth aL eD.toNat).aw)<1))) || (decide ((if (nth aL eD.toNat).sub > (nth aL eD.toNat).aw then (nth aL eD.toNat).sub else (nth aL eD.toNat).aw) > 9999))) || (y2 != 0))=true then some (.inr false) else ck (cR (eD+1)) (some (.inl (eD+1)))))) else some (.inr true)
def oN (aL:List aA):Option Bool :=
 loop (λs=>qb aL s) 0
def nA (cO:List (List aa)) (ba:List aa) (sQ:Int):Option ((List aa×Int) ⊕ (List aa)) :=
 if (decide (sQ<(cO.length:Int)))=true then (ck ((0:Int)<=sQ/\sQ<(cO.length:Int)) (ck (ba.length+(nth cO sQ.toNat).length<=1000000000) (ck (cR (sQ+1)) (some (.inl (ba++(nth cO sQ.toNat),sQ+1)))))) else some (.inr ba)
def gr (cO:List (List aa)) (vW:Int):Option (List aa) :=
 (Bo vW).bind λy1=>loop (λs=>nA cO s.1 s.2) (y1,0)
def gv (cO:List (List aa)) (mn:Int) (rB:Int):Option ((Int×Int) ⊕ (List aa)) :=
 if (decide (rB<(cO.length:Int)))=true then (ck ((0:Int)<=rB/\rB<(cO.length:Int)) (ck (cR (mn+((nth cO rB.toNat).length:Int))) (if (decide ((mn+((nth cO rB.toNat).length:Int))<0))=true then none else ck (cR (rB+1)) (some (.inl (mn+((nth cO rB.toNat).length:Int),rB+1)))))) else (gr cO mn).map (λz=>.inr z)
def ll (cO:List (List aa)):Option (List aa) :=
 loop (λs=>gv cO s.1 s.2) (0,0)
def qc (du:ah) (cL:List aa) (iI:Int) (cF:List (bn×Bool)):Option ((Int×(List (bn×Bool))) ⊕ Bool) :=
 if (decide (iI<(cL.length:Int)))=true then (ck ((0:Int)<=iI/\iI<(cL.length:Int)) ((ct (!((aC cF (⟨(nth cL iI.toNat).source,(nth cL iI.toNat).aZ⟩:bn)).getD false)) (uM du.aM.seen (nth cL iI.toNat).source (nth cL iI.toNat).aZ)).bind λy2=>if (((aC cF (⟨(nth cL iI.toNat).source,(nth cL iI.toNat).aZ⟩:bn)).getD false) || (!y2))=true then some (.inr false) else ck (cR (iI+1)) (some (.inl (iI+1,dj cF (⟨(nth cL iI.toNat).source,(nth cL iI.toNat).aZ⟩:bn) true))))) else some (.inr true)
def jk (du:ah) (cL:List aa):Option Bool :=
 loop (λs=>qc du cL s.1 s.2) (0,([]:List (bn×Bool)))
def jl (du:ah) (mo:List aa) (vX:Int):Option ((List aa×Int) ⊕ Bool) :=
 if (decide (vX<(du.usages.length:Int)))=true then (ck ((0:Int)<=vX/\vX<(du.usages.length:Int)) ((lk (nth du.usages vX.toNat)).bind λy3=>ck (mo.length+([y3]:List aa).length<=1000000000) (ck (cR (vX+1)) (some (.inl (mo++([y3]:List aa),vX+1)))))) else (jk du mo).map (λz=>.inr z)
def oO (du:ah):Option Bool :=
 (ll ([du.aP,du.aM.open_]:List (List aa))).bind λy1=>loop (λs=>jl du s.1 s.2) (y1,0)
def nL (nv:aa):Option Bool :=
 (ct (!(nv.part != 0)) (dU nv)).bind λy1=>some ((nv.part != 0) || (y1 != 0))
def nM (Ji:ak):Option Bool :=
 some ((Ji.err != 15) && (Ji.err != 13))
def tS (bU:List aa) (aY:Int):Option (Int ⊕ Int) :=
 if (decide (aY<(bU.length:Int)))=true then (ck ((0:Int)<=aY/\aY<(bU.length:Int)) ((nL (nth bU aY.toNat)).bind λy1=>if y1=true then some (.inr aY) else ck (cR (aY+1)) (some (.inl (aY+1))))) else some (.inr (-1))
def sr (bU:List aa):Option Int :=
 loop (λs=>tS bU s) 0
def sv (bU:List aa):Option Bool :=
 (sr bU).bind λy1=>some (decide (y1>=0))
def lC (bU:List ak) (aY:Int):Option (Int ⊕ Int) :=
 if (decide (aY<(bU.length:Int)))=true then (ck ((0:Int)<=aY/\aY<(bU.length:Int)) ((nM (nth bU aY.toNat)).bind λy1=>if y1=true then some (.inr aY) else ck (cR (aY+1)) (some (.inl (aY+1))))) else some (.inr (-1))
def jr (bU:List ak):Option Int :=
 loop (λs=>lC bU s) 0
def hU (bU:List ak):Option Bool :=
 (jr bU).bind λy1=>some (decide (y1>=0))
def pC (du:ah):Option Bool :=
 (tR du.aM).bind λy1=>(ct (!(!y1)) (oN du.usages)).bind λy2=>(ct (!((!y1) || (!y2))) (oO du)).bind λy3=>if (((!y1) || (!y2)) || (!y3))=true then some false else (sv du.aP).bind λy4=>if y4=true then some false else (hU du.bu).bind λy5=>if y5=true then some false else (il du).bind λy6=>ck ((decide (y6.merged>=0))=true->(cR (y6.accepted+y6.merged))) (ck ((decide (y6.merged>=0))=true->(cR ((y6.accepted+y6.merged)+y6.rejected))) (ck ((decide (y6.merged>=0))=true->(cR (((y6.accepted+y6.merged)+y6.rejected)+y6.bO))) (ck ((decide (y6.merged>=0))=true->(cR ((((y6.accepted+y6.merged)+y6.rejected)+y6.bO)+y6.open_))) (some ((decide (y6.merged>=0)) && (y6.read==((((y6.accepted+y6.merged)+y6.rejected)+y6.bO)+y6.open_)))))))
def rC:Option Bool :=
 (pg false).bind λy1=>(na y1 (⟨(⟨([]:List Range),([]:List aa),([]:List Head)⟩:aH),([]:List aA),([]:List aa),([]:List ak)⟩:ah) (⟨1,1,1,([(⟨1,1,2,([49]:List UInt8),([50]:List UInt8),20,1,0,0,false,0,false⟩:aa),(⟨1,2,2,([51]:List UInt8),([50]:List UInt8),20,1,0,0,false,0,false⟩:aa)]:List aa)⟩:Batch) (⟨0,100⟩:gC)).bind λy2=>(pg false).bind λy3=>(na y3 (⟨(⟨([]:List Range),([]:List aa),([]:List Head)⟩:aH),([]:List aA),([]:List aa),([]:List ak)⟩:ah) (⟨1,1,1,([(⟨1,1,2,([49]:List UInt8),([50]:List UInt8),20,1,5,1,false,0,false⟩:aa),(⟨1,2,2,([49]:List UInt8),([50]:List UInt8),20,1,5,2,true,0,false⟩:aa)]:List aa)⟩:Batch) (⟨0,100⟩:gC)).bind λy4=>(ct (!((y2.2 != 0) || (y4.2 != 0))) (il y2.1)).bind λy5=>(ct (!(((y2.2 != 0) || (y4.2 != 0)) || (!(eI (b8.bR y5) (b8.bR (⟨2,1,0,0,1,0⟩:b8)))))) (il y4.1)).bind λy6=>if ((((y2.2 != 0) || (y4.2 != 0)) || (!(eI (b8.bR y5) (b8.bR (⟨2,1,0,0,1,0⟩:b8))))) || (!(eI (b8.bR y6) (b8.bR (⟨2,1,1,0,0,0⟩:b8)))))=true then some false else (pg true).bind λy7=>(gX y7 y2.1).bind λy8=>ck (((y8.usages.length:Int)==2)=true->((0:Int)<=1/\1<(y8.usages.length:Int))) (ck ((((y8.usages.length:Int)==2) && (((nth y8.usages (Int.toNat (1))).id)==2))=true->((0:Int)<=1/\1<(y8.usages.length:Int))) ((ct (((((y8.usages.length:Int)==2) && (((nth y8.usages (Int.toNat (1))).id)==2)) && (((nth y8.usages (Int.toNat (1))).a)==([51]:List UInt8))) && ((y8.aP.length:Int)==0)) (pC y8)).bind λy9=>ck ((((((((y8.usages.length:Int)==2) && (((nth y8.usages (Int.toNat (1))).id)==2)) && (((nth y8.usages (Int.toNat (1))).a)==([51]:List UInt8))) && ((y8.aP.length:Int)==0)) && y9) && ((y4.1.usages.length:Int)==1))=true->((0:Int)<=0/\0<(y4.1.usages.length:Int))) (some ((((((((y8.usages.length:Int)==2) && (((nth y8.usages (Int.toNat (1))).id)==2)) && (((nth y8.usages (Int.toNat (1))).a)==([51]:List UInt8))) && ((y8.aP.length:Int)==0)) && y9) && ((y4.1.usages.length:Int)==1)) && (((nth y4.1.usages (Int.toNat (0))).cJ)==2)))))
def qZ (lV:List Head) (vY:Int) (tT:Int) (Hi:Int) (cA:Int):Option ((Int×Int) ⊕ Int) :=
 if (decide (cA<vY))=true then (ck ((0:Int)<=cA/\cA<(lV.length:Int)) (if (((nth lV cA.toNat).source)==tT)=true then (ck ((0:Int)<=cA/\cA<(lV.length:Int)) (ck (cR (((nth lV cA.toNat).number)+1)) (ck (cR (cA+1)) (some (.inl (((nth lV cA.toNat).number)+1,cA+1)))))) else ck (cR (cA+1)) (some (.inl (Hi,cA+1))))) else some (.inr Hi)
def qw (lV:List Head) (vY:Int) (tT:Int):Option Int :=
 loop (λs=>qZ lV vY tT s.1 s.2) (1,0)
def mq (v0:aH) (bL:Int):Option (Int ⊕ Bool) :=
 if (decide (bL<(v0.aT.length:Int)))=true then (ck ((0:Int)<=bL/\bL<(v0.aT.length:Int)) ((ct (!((((decide ((nth v0.aT bL.toNat).source<1)) || (decide ((nth v0.aT bL.toNat).source > 99))) || (decide ((nth v0.aT bL.toNat).number<1))) || (decide ((nth v0.aT bL.toNat).number > 999999999)))) (qw v0.aT bL (nth v0.aT bL.toNat).source)).bind λy1=>if (((((((((decide ((nth v0.aT bL.toNat).source<1)) || (decide ((nth v0.aT bL.toNat).source > 99))) || (decide ((nth v0.aT bL.toNat).number<1))) || (decide ((nth v0.aT bL.toNat).number > 999999999))) || ((nth v0.aT bL.toNat).number != y1)) || (decide ((nth v0.aT bL.toNat).format<1))) || (decide (((nth v0.aT bL.toNat).format)>=4))) || (decide ((nth v0.aT bL.toNat).count<0))) || (decide ((nth v0.aT bL.toNat).count > 4096)))=true then some (.inr false) else ck (cR (bL+1)) (some (.inl (bL+1))))) else some (.inr true)
def rD (v0:aH):Option Bool :=
 loop (λs=>mq v0 s) 0
def jb (mc:Int) (mf:Int):Option Bool :=
 some ((((decide (mc>=1)) && (decide (mc<=99))) && (decide (mf>=1))) && (decide (mf<=999999999)))
def mr (v0:List Range) (bL:Int):Option (Int ⊕ Bool) :=
 if (decide (bL<(v0.length:Int)))=true then (ck ((0:Int)<=bL/\bL<(v0.length:Int)) ((jb (nth v0 bL.toNat).source (nth v0 bL.toNat).from_).bind λy1=>(ct (!(!y1)) (jb (nth v0 bL.toNat).source (nth v0 bL.toNat).lz)).bind λy2=>if (((!y1) || (!y2)) || (decide ((nth v0 bL.toNat).from_ > (nth v0 bL.toNat).lz)))=true then some (.inr false) else ck ((decide (bL > 0))=true->(cR (bL-1))) (ck ((decide (bL > 0))=true->((0:Int)<=(bL-1)/\(bL-1)<(v0.length:Int))) (ck (((decide (bL > 0)) && (!(decide ((nth v0 (bL-1).toNat).source > (nth v0 bL.toNat).source))))=true->(cR (bL-1))) (ck (((decide (bL > 0)) && (!(decide ((nth v0 (bL-1).toNat).source > (nth v0 bL.toNat).source))))=true->((0:Int)<=(bL-1)/\(bL-1)<(v0.length:Int))) (ck ((((decide (bL > 0)) && (!(decide ((nth v0 (bL-1).toNat).source > (nth v0 bL.toNat).source)))) && (((nth v0 (bL-1).toNat).source)==((nth v0 bL.toNat).source)))=true->(cR (bL-1))) (ck ((((decide (bL > 0)) && (!(decide ((nth v0 (bL-1).toNat).source > (nth v0 bL.toNat).source)))) && (((nth v0 (bL-1).toNat).source)==((nth v0 bL.toNat).source)))=true->((0:Int)<=(bL-1)/\(bL-1)<(v0.length:Int))) (ck ((((decide (bL > 0)) && (!(decide ((nth v0 (bL-1).toNat).source > (nth v0 bL.toNat).source)))) && (((nth v0 (bL-1).toNat).source)==((nth v0 bL.toNat).source)))=true->(cR (((nth v0 (bL-1).toNat).lz)+1))) (if ((decide (bL > 0)) && ((decide ((nth v0 (bL-1).toNat).source > (nth v0 bL.toNat).source)) || ((((nth v0 (bL-1).toNat).source)==((nth v0 bL.toNat).source)) && (decide ((((nth v0 (bL-1).toNat).lz)+1)>=((nth v0 bL.toNat).from_))))))=true then some (.inr false) else ck (cR (bL+1)) (some (.inl (bL+1)))))))))))) else some (.inr true)
def rE (v0:List Range):Option Bool :=
 loop (λs=>mr v0 s) 0
def mu (zh:Int) (Nd:Int) (Iu:Int):Option Bool :=
 some ((decide (zh>=Nd)) && (decide (zh<=Iu)))
def mv (bU:List UInt8):Option Bool :=
 some ((decide ((bU.length:Int)>=1)) && (decide ((bU.length:Int)<=15)))
def pD (bU:List UInt8) (bz:Int):Option (Int ⊕ Bool) :=
 if (decide (bz<(bU.length:Int)))=true then (ck ((0:Int)<=bz/\bz<(bU.length:Int)) (ck ((!(decide ((nth bU bz.toNat)<48)))=true->((0:Int)<=bz/\bz<(bU.length:Int))) (if ((decide ((nth bU bz.toNat)<48)) || (decide ((nth bU bz.toNat) > 57)))=true then some (.inr false) else ck (cR (bz+1)) (some (.inl (bz+1)))))) else (mv bU).map (λz=>.inr z)
def mw (bU:List UInt8):Option Bool :=
 loop (λs=>pD bU s) 0
def rF (v0:aa):Option Int :=
 (mu v0.source 1 99).bind λy1=>(ct (!(!y1)) (mu v0.aZ 1 999999999)).bind λy2=>if ((!y1) || (!y2))=true then some 6 else (mu v0.kind 1 4).bind λy3=>if (!y3)=true then some 7 else (mw v0.a).bind λy4=>if (!y4)=true then some 12 else (mw v0.b).bind λy5=>if ((!y5) && ((v0.b != ([]:List UInt8)) || ((v0.kind != 3) && (v0.kind != 4))))=true then some 12 else (mu v0.start 0 12622780799).bind λy6=>if (!y6)=true then some 15 else (mu v0.cJ 0 1099511627776).bind λy7=>if ((!y7) || ((v0.kind==1) && (decide (v0.cJ > 604800))))=true then some 6 else ck ((v0.kind==1)=true->(cR (v0.start+v0.cJ))) (if ((v0.kind==1) && (decide ((v0.start+v0.cJ) > 12622780800)))=true then some 15 else (mu v0.call 0 999999999).bind λy8=>(ct (!(!y8)) (mu v0.part 0 99)).bind λy9=>if ((!y8) || (!y9))=true then some 6 else if (((v0.part==0) != (v0.call==0)) || (v0.last && (v0.part==0)))=true then some 8 else (mu v0.cT 0 999).bind λQl=>if (!Ql)=true then some 6 else if (v0.bI && (v0.cT==0))=true then some 8 else some 0)
def gO (nv:aa):Option Int :=
 (rF nv).bind λy1=>some y1
def pE (fE:aa) (gx:aa):Option Bool :=
 if (fE.source != gx.source)=true then some (decide (fE.source<gx.source)) else if (fE.call != gx.call)=true then some (decide (fE.call<gx.call)) else some (decide (fE.part<gx.part))
def mx (fE:aa) (gx:aa):Option Bool :=
 some ((fE.source==gx.source) && (fE.call==gx.call))
def oE (bN:List aa) (r6:aa) (qx:Bool) (ln:List Int) (cA:Int):Option ((List Int×Int) ⊕ (List Int)) :=
 if (decide (cA<(bN.length:Int)))=true then (ck ((0:Int)<=cA/\cA<(bN.length:Int)) ((mx (nth bN cA.toNat) r6).bind λy1=>ck (y1=true->((0:Int)<=cA/\cA<(bN.length:Int))) (ck (y1=true->(cR ((ln.length:Int)+1))) (if (y1 && (((nth bN cA.toNat).part)==((ln.length:Int)+1)))=true then (ck (ln.length+([cA]:List Int).length<=1000000000) (ck (qx=true->((0:Int)<=cA/\cA<(bN.length:Int))) (if (qx && (nth bN cA.toNat).last)=true then some (.inr (ln++([cA]:List Int))) else ck (cR (cA+1)) (some (.inl (ln++([cA]:List Int),cA+1)))))) else ck (cR (cA+1)) (some (.inl (ln,cA+1))))))) else some (.inr ln)
def ng (bN:List aa) (r6:aa) (qx:Bool):Option (List Int) :=
 loop (λs=>oE bN r6 qx s.1 s.2) (([]:List Int),0)
def ra (aL:List aa) (fk:List Int) (b9:List aa) (nZ:List aa) (uU:Int) (cC:Int):Option ((List aa×List aa×Int×Int) ⊕ ((List aa)×(List aa))) :=
 if (decide (cC<(aL.length:Int)))=true then (ck ((decide (uU<(fk.length:Int)))=true->((0:Int)<=uU/\uU<(fk.length:Int))) (if ((decide (uU<(fk.length:Int))) && ((nth fk uU.toNat)==cC))=true then (ck ((0:Int)<=cC/\cC<(aL.length:Int)) (ck (b9.length+([nth aL cC.toNat]:List aa).length<=1000000000) (ck (cR (uU+1)) (ck (cR (cC+1)) (some (.inl (b9++([nth aL cC.toNat]:List aa),nZ,uU+1,cC+1))))))) else ck ((0:Int)<=cC/\cC<(aL.length:Int)) (ck (nZ.length+([nth aL cC.toNat]:List aa).length<=1000000000) (ck (cR (cC+1)) (some (.inl (b9,nZ++([nth aL cC.toNat]:List aa),uU,cC+1))))))) else some (.inr (b9,nZ))
def oP (aL:List aa) (fk:List Int):Option ((List aa)×(List aa)) :=
 loop (λs=>ra aL fk s.1 s.2.1 s.2.2.1 s.2.2.2) (([]:List aa),([]:List aa),0,0)
def my (v0:List aa) (gE:Int) (qy:Int) (qz:Int) (qA:List UInt8) (qB:List UInt8) (qC:Int) (jT:Int) (nh:Int) (ni:Bool):Option (aa×Bool) :=
 some ((⟨gE,qy,qz,qA,qB,qC,jT,0,0,false,nh,ni⟩:aa),decide ((v0.length:Int) > 0))
def pF (v0:List aa) (sw:Int) (cF:Int) (pG:Int) (pH:Int) (Cw:List UInt8) (Cx:List UInt8) (pw:Int) (fA:Int) (yO:Int) (yP:Bool):Option ((Int×Int×Int×Int×List UInt8×List UInt8×Int×Int×Int×Bool) ⊕ (aa×Bool)) :=
 if (decide (sw<(v0.length:Int)))=true then (ck ((0:Int)<=sw/\sw<(v0.length:Int)) ((ct (!(((nth v0 sw.toNat).part)==0)) (gO (nth v0 sw.toNat))).bind λy1=>if ((((nth v0 sw.toNat).part)==0) || (y1 != 0))=true then some (.inr ((⟨0,0,0,([]:List UInt8),([]:List UInt8),0,0,0,0,false,0,false⟩:aa),false)) else ck (cR (fA+((nth v0 sw.toNat).cJ))) (ck ((0:Int)<=0/\0<(v0.length:Int)) ((mx (nth v0 sw.toNat) (nth v0 (Int.toNat (0)))).bind λy2=>if ((((((!y2) || ((nth v0 sw.toNat).kind != (nth v0 (Int.toNat (0))).kind)) || ((nth v0 sw.toNat).a != (nth v0 (Int.toNat (0))).a)) || ((nth v0 sw.toNat).b != (nth v0 (Int.toNat (0))).b)) || ((nth v0 sw.toNat).cT != (nth v0 (Int.toNat (0))).cT)) || ((nth v0 sw.toNat).bI != (nth v0 (Int.toNat (0))).bI))=true then some (.inr ((⟨0,0,0,([]:List UInt8),([]:List UInt8),0,0,0,0,false,0,false⟩:aa),false)) else (gO (⟨(nth v0 (Int.toNat (0))).source,(nth v0 (Int.toNat (0))).aZ,(nth v0 (Int.toNat (0))).kind,(nth v0 (Int.toNat (0))).a,(nth v0 (Int.toNat (0))).b,(nth v0 (Int.toNat (0))).start,fA+((nth v0 sw.toNat).cJ),0,0,false,(nth v0 (Int.toNat (0))).cT,(nth v0 (Int.toNat (0))).bI⟩:aa)).bind λy3=>if (y3 != 0)=true then some (.inr ((⟨0,0,0,([]:List UInt8),([]:List UInt8),0,0,0,0,false,0,false⟩:aa),false)) else ck (cR (sw+1)) (some (.inl (sw+1,(nth v0 (Int.toNat (0))).source,(nth v0 (Int.toNat (0))).aZ,(nth v0 (Int.toNat (0))).kind,(nth v0 (Int.toNat (0))).a,(nth v0 (Int.toNat (0))).b,(nth v0 (Int.toNat (0))).start,fA+((nth v0 sw.toNat).cJ),(nth v0 (Int.toNat (0))).cT,(nth v0 (Int.toNat (0))).bI))))))) else (my v0 cF pG pH Cw Cx pw fA yO yP).map (λz=>.inr z)
def kT (v0:List aa):Option (aa×Bool) :=
 loop (λs=>pF v0 s.1 s.2.1 s.2.2.1 s.2.2.2.1 s.2.2.2.2.1 s.2.2.2.2.2.1 s.2.2.2.2.2.2.1 s.2.2.2.2.2.2.2.1 s.2.2.2.2.2.2.2.2.1 s.2.2.2.2.2.2.2.2.2) (0,0,0,0,([]:List UInt8),([]:List UInt8),0,0,0,false)
def jC (al:List aa):Option (aa×Bool) :=
 (kT al).bind λy1=>some (y1.1,y1.2)
def lW (al:List aa) (cr:Int):Option (Int ⊕ (aa×Bool)) :=
 if (decide (cr<(al.length:Int)))=true then (ck ((0:Int)<=cr/\cr<(al.length:Int)) (ck (cR (cr+1)) (ck ((!((nth al cr.toNat).part != (cr+1)))=true->((0:Int)<=cr/\cr<(al.length:Int))) (ck ((!((nth al cr.toNat).part != (cr+1)))=true->(cR (cr+1))) (if (((nth al cr.toNat).part != (cr+1)) || ((nth al cr.toNat).last != ((cr+1)==(al.length:Int))))=true then some (.inr ((⟨0,0,0,([]:List UInt8),([]:List UInt8),0,0,0,0,false,0,false⟩:aa),false)) else ck (cR (cr+1)) (some (.inl (cr+1)))))))) else (jC al).map (λz=>.inr z)
def mz (al:List aa):Option (aa×Bool) :=
 loop (λs=>lW al s) 0
def rb (v0:List aa) (DQ:Int):Option (Int ⊕ Bool) :=
 if (decide (DQ<(v0.length:Int)))=true then (ck ((0:Int)<=DQ/\DQ<(v0.length:Int)) ((ng v0 (nth v0 DQ.toNat) true).bind λy1=>(oP v0 y1).bind λy2=>(mz y2.1).bind λy3=>if y3.2=true then some (.inr false) else ck (cR (DQ+1)) (some (.inl (DQ+1))))) else some (.inr true)
def lI (v0:List aa):Option Bool :=
 loop (λs=>rb v0 s) 0
def jV (v0:List aa) (fH:Int):Option (Int ⊕ Bool) :=
 if (decide (fH<(v0.length:Int)))=true then (ck ((0:Int)<=fH/\fH<(v0.length:Int)) (ck ((!(((nth v0 fH.toNat).part)==0))=true->((0:Int)<=fH/\fH<(v0.length:Int))) ((ct (!(((nth v0 fH.toNat).part)==0)) (gO (nth v0 fH.toNat))).bind λy4=>ck (((!((((nth v0 fH.toNat).part)==0) || (y4 != 0))) && (decide (fH > 0)))=true->((0:Int)<=fH/\fH<(v0.length:Int))) (ck (((!((((nth v0 fH.toNat).part)==0) || (y4 != 0))) && (decide (fH > 0)))=true->(cR (fH-1))) (ck (((!((((nth v0 fH.toNat).part)==0) || (y4 != 0))) && (decide (fH > 0)))=true->((0:Int)<=(fH-1)/\(fH-1)<(v0.length:Int))) ((ct ((!((((nth v0 fH.toNat).part)==0) || (y4 != 0))) && (decide (fH > 0))) (pE (nth v0 fH.toNat) (nth v0 (fH-1).toNat))).bind λy5=>if (((((nth v0 fH.toNat).part)==0) || (y4 != 0)) || ((decide (fH > 0)) && y5))=true then some (.inr false) else ck (cR (fH+1)) (some (.inl (fH+1))))))))) else (lI v0).map (λz=>.inr z)
def tU (v0:List aa):Option Bool :=
 loop (λs=>jV v0 s) 0
def ku (bL:Int) (Ov:Int):Option (Int ⊕ Bool) :=
 if (decide (Ov > 0))=true then some (.inr false) else ck (cR (bL+1)) (some (.inl (bL+1)))
def nj (v0:aH) (bL:Int) (Gi:Int) (oQ:Int):Option ((Int×Int) ⊕ (Int ⊕ Bool)) :=
 if (decide (oQ<(v0.aT.length:Int)))=true then (ck ((0:Int)<=oQ/\oQ<(v0.aT.length:Int)) (if (((nth v0.aT oQ.toNat).source)==bL)=true then (ck ((0:Int)<=oQ/\oQ<(v0.aT.length:Int)) (ck (cR (Gi-((nth v0.aT oQ.toNat).count))) (ck (cR (oQ+1)) (some (.inl (Gi-((nth v0.aT oQ.toNat).count),oQ+1)))))) else ck (cR (oQ+1)) (some (.inl (Gi,oQ+1))))) else (ku bL Gi).map (λz=>.inr z)
def iN (v0:aH) (bL:Int) (Cs:Int):Option (Int ⊕ Bool) :=
 loop (λs=>nj v0 bL s.1 s.2) (Cs,0)
def gF (v0:aH) (bL:Int) (Aw:Int) (nk:Int):Option ((Int×Int) ⊕ (Int ⊕ Bool)) :=
 if (decide (nk<(v0.seen.length:Int)))=true then (ck ((0:Int)<=nk/\nk<(v0.seen.length:Int)) (if (((nth v0.seen nk.toNat).source)==bL)=true then (ck ((0:Int)<=nk/\nk<(v0.seen.length:Int)) (ck (cR (Aw+((nth v0.seen nk.toNat).lz))) (ck ((0:Int)<=nk/\nk<(v0.seen.length:Int)) (ck (cR ((Aw+((nth v0.seen nk.toNat).lz)) - (nth v0.seen nk.toNat).from_)) (ck (cR (((Aw+((nth v0.seen nk.toNat).lz)) - (nth v0.seen nk.toNat).from_)+1)) (ck (cR (nk+1)) (some (.inl (((Aw+((nth v0.seen nk.toNat).lz)) - (nth v0.seen nk.toNat).from_)+1,nk+1))))))))) else ck (cR (nk+1)) (some (.inl (Aw,nk+1))))) else (iN v0 bL Aw).map (λz=>.inr z)
def qD (v0:aH) (bL:Int):Option (Int ⊕ Bool) :=
 if (decide (bL<=99))=true then (loop (λs=>gF v0 bL s.1 s.2) (0,0)) else some (.inr true)
def n9 (v0:aH):Option Bool :=
 loop (λs=>qD v0 s) 1
def s8 (aW:List Range) (bS:Int) (cN:Int) (mA:Int):Option (Int ⊕ Bool) :=
 if (decide (mA<(aW.length:Int)))=true then (ck ((0:Int)<=mA/\mA<(aW.length:Int)) (ck ((((nth aW mA.toNat).source)==bS)=true->((0:Int)<=mA/\mA<(aW.length:Int))) (ck (((((nth aW mA.toNat).source)==bS) && (decide (((nth aW mA.toNat).from_)<=cN)))=true->((0:Int)<=mA/\mA<(aW.length:Int))) (if (((((nth aW mA.toNat).source)==bS) && (decide (((nth aW mA.toNat).from_)<=cN))) && (decide (cN<=((nth aW mA.toNat).lz))))=true then ((jb bS cN).bind λy1=>some (.inr y1)) else ck (cR (mA+1)) (some (.inl (mA+1))))))) else some (.inr false)
def tr (aW:List Range) (bS:Int) (cN:Int):Option Bool :=
 loop (λs=>s8 aW bS cN s) 0
def mB (v0:aH) (bL:Int) (yc:Int):Option (Int ⊕ (Int ⊕ Bool)) :=
 if (decide (yc<bL))=true then (ck ((0:Int)<=yc/\yc<(v0.open_.length:Int)) (ck ((((nth v0.open_ yc.toNat).source)==((nth v0.open_ bL.toNat).source))=true->((0:Int)<=yc/\yc<(v0.open_.length:Int))) (if ((((nth v0.open_ yc.toNat).source)==((nth v0.open_ bL.toNat).source)) && (((nth v0.open_ yc.toNat).aZ)==((nth v0.open_ bL.toNat).aZ)))=true then some (.inr (.inr false)) else ck (cR (yc+1)) (some (.inl (yc+1)))))) else ck (cR (bL+1)) (some (.inr (.inl (bL+1))))
def mC (v0:aH) (bL:Int):Option (Int ⊕ Bool) :=
 if (decide (bL<(v0.open_.length:Int)))=true then (ck ((0:Int)<=bL/\bL<(v0.open_.length:Int)) ((tr v0.seen (nth v0.open_ bL.toNat).source (nth v0.open_ bL.toNat).aZ).bind λy5=>if (!y5)=true then some (.inr false) else loop (λs=>mB v0 bL s) 0)) else some (.inr true)
def rG (v0:aH):Option Bool :=
 (rD v0).bind λy1=>(ct (!(!y1)) (rE v0.seen)).bind λy2=>(ct (!((!y1) || (!y2))) (tU v0.open_)).bind λy3=>(ct (!(((!y1) || (!y2)) || (!y3))) (n9 v0)).bind λy4=>if ((((!y1) || (!y2)) || (!y3)) || (!y4))=true then some false else loop (λs=>mC v0 s) 0
def s9 (vj:aA):Option aa :=
 some (⟨vj.source,vj.aZ,vj.kind,vj.a,vj.b,vj.start,vj.cJ,0,0,false,vj.cT,vj.bI⟩:aa)
def kv (du:ah) (pI:List aa):Option (List aa) :=
 ck (pI.length+du.aP.length<=1000000000) (ck ((pI++du.aP).length+du.aM.open_.length<=1000000000) (some ((pI++du.aP)++du.aM.open_)))
def kx (du:ah) (re:List aa) (cr:Int):Option ((List aa×Int) ⊕ (List aa)) :=
 if (decide (cr<(du.usages.length:Int)))=true then (ck ((0:Int)<=cr/\cr<(du.usages.length:Int)) ((s9 (nth du.usages cr.toNat)).bind λy1=>ck (re.length+([y1]:List aa).length<=1000000000) (ck (cR (cr+1)) (some (.inl (re++([y1]:List aa),cr+1)))))) else (kv du re).map (λz=>.inr z)
def oa (du:ah):Option (List aa) :=
 loop (λs=>kx du s.1 s.2) (([]:List aa),0)
def mD (aW:List Range) (nY:Int) (cr:Int):Option ((Int×Int) ⊕ Int) :=
 if (decide (cr<(aW.length:Int)))=true then (ck ((0:Int)<=cr/\cr<(aW.length:Int)) (ck (cR (nY+((nth aW cr.toNat).lz))) (ck ((0:Int)<=cr/\cr<(aW.length:Int)) (ck (cR ((nY+((nth aW cr.toNat).lz)) - (nth aW cr.toNat).from_)) (ck (cR (((nY+((nth aW cr.toNat).lz)) - (nth aW cr.toNat).from_)+1)) (ck (cR (cr+1)) (some (.inl (((nY+((nth aW cr.toNat).lz)) - (nth aW cr.toNat).from_)+1,cr+1))))))))) else some (.inr nY)
def rH (aW:List Range):Option Int :=
 loop (λs=>mD aW s.1 s.2) (0,0)
def kz (du:ah) (qu:Int):Option b8 :=
 (rH du.aM.seen).bind λy1=>ck (cR (y1-(du.usages.length:Int))) (ck (cR ((y1-(du.usages.length:Int)) - (du.aP.length:Int))) (ck (cR (((y1-(du.usages.length:Int)) - (du.aP.length:Int)) - (du.aM.open_.length:Int))) (some (⟨qu,(du.usages.length:Int),((y1-(du.usages.length:Int)) - (du.aP.length:Int)) - (du.aM.open_.length:Int),(du.bu.length:Int),(du.aP.length:Int),(du.aM.open_.length:Int)⟩:b8))))
def kA (du:ah) (cr:Int) (bV:Int):Option ((Int×Int) ⊕ b8) :=
 if (decide (cr<(du.aM.aT.length:Int)))=true then (ck ((0:Int)<=cr/\cr<(du.aM.aT.length:Int)) (ck (cR (bV+((nth du.aM.aT cr.toNat).count))) (ck (cR (cr+1)) (some (.inl (cr+1,bV+((nth du.aM.aT cr.toNat).count))))))) else (kz du bV).map (λz=>.inr z)
def oc (du:ah):Option b8 :=
 loop (λs=>kA du s.1 s.2) (0,0)
def kB (v0:ah):Option Bool :=
 (oc v0).bind λy3=>ck ((decide (y3.merged>=0))=true->(cR (y3.accepted+y3.merged))) (ck ((decide (y3.merged>=0))=true->(cR ((y3.accepted+y3.merged)+y3.rejected))) (ck ((decide (y3.merged>=0))=true->(cR (((y3.accepted+y3.merged)+y3.rejected)+y3.bO))) (ck ((decide (y3.merged>=0))=true->(cR ((((y3.accepted+y3.merged)+y3.rejected)+y3.bO)+y3.open_))) (some ((decide (y3.merged>=0)) && (y3.read==((((y3.accepted+y3.merged)+y3.rejected)+y3.bO)+y3.open_)))))))
def mE (y2:(List aa)) (aY:Int) (xy:Int):Option (Int ⊕ (Int ⊕ Bool)) :=
 if (decide (xy<aY))=true then (ck ((0:Int)<=xy/\xy<(y2.length:Int)) (ck ((0:Int)<=aY/\aY<(y2.length:Int)) (ck ((((nth y2 xy.toNat).source)==((nth y2 aY.toNat).source))=true->((0:Int)<=xy/\xy<(y2.length:Int))) (ck ((((nth y2 xy.toNat).source)==((nth y2 aY.toNat).source))=true->((0:Int)<=aY/\aY<(y2.length:Int))) (if ((((nth y2 xy.toNat).source)==((nth y2 aY.toNat).source)) && (((nth y2 xy.toNat).aZ)==((nth y2 aY.toNat).aZ)))=true then some (.inr (.inr false)) else ck (cR (xy+1)) (some (.inl (xy+1)))))))) else ck (cR (aY+1)) (some (.inr (.inl (aY+1))))
def pJ (v0:ah) (y2:(List aa)) (aY:Int):Option (Int ⊕ Bool) :=
 if (decide (aY<(y2.length:Int)))=true then (ck ((0:Int)<=aY/\aY<(y2.length:Int)) ((gO (nth y2 aY.toNat)).bind λy4=>ck ((!(y4 != 0))=true->((0:Int)<=aY/\aY<(y2.length:Int))) (ck ((!(y4 != 0))=true->((0:Int)<=aY/\aY<(y2.length:Int))) ((ct (!(y4 != 0)) (tr v0.aM.seen (nth y2 aY.toNat).source (nth y2 aY.toNat).aZ)).bind λy5=>if ((y4 != 0) || (!y5))=true then some (.inr false) else loop (λs=>mE y2 aY s) 0)))) else (kB v0).map (λz=>.inr z)
def kC (v0:ah):Option Bool :=
 (oa v0).bind λy2=>loop (λs=>pJ v0 y2 s) 0
def kD (v0:ah) (xz:Int):Option (Int ⊕ Bool) :=
 if (decide (xz<(v0.bu.length:Int)))=true then (ck ((0:Int)<=xz/\xz<(v0.bu.length:Int)) (ck (((nth v0.bu xz.toNat).err != 15)=true->((0:Int)<=xz/\xz<(v0.bu.length:Int))) (if (((nth v0.bu xz.toNat).err != 15) && ((nth v0.bu xz.toNat).err != 13))=true then some (.inr false) else ck (cR (xz+1)) (some (.inl (xz+1)))))) else (kC v0).map (λz=>.inr z)
def kE (v0:ah):Option Bool :=
 loop (λs=>kD v0 s) 0
def kF (v0:ah) (Cy:Int):Option (Int ⊕ Bool) :=
 if (decide (Cy<(v0.aP.length:Int)))=true then (ck ((0:Int)<=Cy/\Cy<(v0.aP.length:Int)) (if ((nth v0.aP Cy.toNat).part != 0)=true then some (.inr false) else ck (cR (Cy+1)) (some (.inl (Cy+1))))) else (kE v0).map (λz=>.inr z)
def kG (v0:ah):Option Bool :=
 loop (λs=>kF v0 s) 0
def jc (v0:ah) (vZ:Int):Option (Int ⊕ Bool) :=
 if (decide (vZ<(v0.usages.length:Int)))=true then (ck ((0:Int)<=vZ/\vZ<(v0.usages.length:Int)) (ck (cR (vZ+1)) (if ((((((nth v0.usages vZ.toNat).id != (vZ+1)) || (decide ((nth v0.usages vZ.toNat).aw<1))) || (decide ((nth v0.usages vZ.toNat).aw > 9999))) || (decide ((nth v0.usages vZ.toNat).sub<1))) || (decide ((nth v0.usages vZ.toNat).sub > 9999)))=true then some (.inr false) else ck (cR (vZ+1)) (some (.inl (vZ+1)))))) else (kG v0).map (λz=>.inr z)
def rJ (v0:ah):Option Bool :=
 (rG v0.aM).bind λy1=>if (!y1)=true then some false else loop (λs=>jc v0 s) 0
def jW (Hj:Bool):Option (List Bool) :=
 if Hj=true then some ([true,false,false,false,true]:List Bool) else some ([false,true,false,false,false]:List Bool)
def iJ (eE:Int) (Hk:Bool):Option (List Bool) :=
 if Hk=true then some ([false,true,false,true,false]:List Bool) else if (eE==14)=true then (jW (eE==14)) else jW (eE==15)
def jX (eE:Int) (qa:Bool):Option (List Bool) :=
 if qa=true then some ([false,true,true,false,false]:List Bool) else if (eE==7)=true then (iJ eE (eE==7)) else if (eE==8)=true then (iJ eE (eE==8)) else iJ eE (eE==9)
def qE (eE:Int):Option (List Bool) :=
 if (eE==1)=true then some ([true,false,false,true,true]:List Bool) else if (eE==2)=true then some ([true,false,false,false,false]:List Bool) else if (eE==3)=true then some ([true,true,false,true,false]:List Bool) else if (eE==5)=true then (jX eE (eE==5)) else jX eE (eE==6)
def yd (zh:Int):Option Bool :=
 some ((decide (zh>=1)) && (decide (zh<=9999)))
def od (bU:List UInt8) (bz:Int):Option (Int ⊕ Bool) :=
 if (decide (bz<(bU.length:Int)))=true then (ck ((0:Int)<=bz/\bz<(bU.length:Int)) (ck ((!(decide ((nth bU bz.toNat)<97)))=true->((0:Int)<=bz/\bz<(bU.length:Int))) (ck (((decide ((nth bU bz.toNat)<97)) || (decide ((nth bU bz.toNat) > 122)))=true->((0:Int)<=bz/\bz<(bU.length:Int))) (ck ((((decide ((nth bU bz.toNat)<97)) || (decide ((nth bU bz.toNat) > 122))) && (!(decide ((nth bU bz.toNat)<48))))=true->((0:Int)<=bz/\bz<(bU.length:Int))) (ck ((((decide ((nth bU bz.toNat)<97)) || (decide ((nth bU bz.toNat) > 122))) && ((decide ((nth bU bz.toNat)<48)) || (decide ((nth bU bz.toNat) > 57))))=true->((0:Int)<=bz/\bz<(bU.length:Int))) (if ((((decide ((nth bU bz.toNat)<97)) || (decide ((nth bU bz.toNat) > 122))) && ((decide ((nth bU bz.toNat)<48)) || (decide ((nth bU bz.toNat) > 57)))) && ((nth bU bz.toNat) != 45))=true then some (.inr false) else ck (cR (bz+1)) (some (.inl (bz+1))))))))) else some (.inr true)
def tV (bU:List UInt8):Option Bool :=
 ck ((!((decide ((bU.length:Int)<1)) || (decide ((bU.length:Int) > 24))))=true->((0:Int)<=0/\0<(bU.length:Int))) (ck ((!(((decide ((bU.length:Int)<1)) || (decide ((bU.length:Int) > 24))) || (decide ((nth bU (Int.toNat (0)))<97))))=true->((0:Int)<=0/\0<(bU.length:Int))) (if ((((decide ((bU.length:Int)<1)) || (decide ((bU.length:Int) > 24))) || (decide ((nth bU (Int.toNat (0)))<97))) || (decide ((nth bU (Int.toNat (0))) > 122)))=true then some false else loop (λs=>od bU s) 0))
def rK (Qm:Event):Option Bool :=
 if (Qm.kind==1)=true then some ((decide (Qm.value>=1)) && (decide (Qm.value<=28))) else if (Qm.kind==14)=true then some ((decide (Qm.value>=1)) && (decide (Qm.value<=1125899906842624))) else some ((decide (Qm.value>=(-1125899906842624))) && (decide (Qm.value<=0)))
def tW (v0:Event) (v1:Int):Option Int :=
 if ((decide (v0.kind<1)) || (decide (v0.kind > 15)))=true then some 7 else if ((decide (v0.at_<0)) || (decide (v0.at_>=12622780800)))=true then some 15 else if (decide (v0.at_<v1))=true then some 9 else (qE v0.kind).bind λy1=>if ((((((!(nth y1 0)) && (v0.aw != 0)) || ((!(nth y1 1)) && (v0.sub != 0))) || ((!(nth y1 2)) && (v0.number != ([]:List UInt8)))) || ((!(nth y1 3)) && (v0.name != ([]:List UInt8)))) || ((!(nth y1 4)) && (v0.value != 0)))=true then some 8 else (ct (nth y1 0) (yd v0.aw)).bind λy2=>(ct ((!((nth y1 0) && (!y2))) && (nth y1 1)) (yd v0.sub)).bind λy3=>if (((nth y1 0) && (!y2)) || ((nth y1 1) && (!y3)))=true then some 6 else (ct (nth y1 3) (tV v0.name)).bind λy4=>if (((nth y1 3) && (!y4)) || (((v0.kind==1) && (v0.name != ([112,114,101,112,97,105,100]:List UInt8))) && (v0.name != ([112,111,115,116,112,97,105,100]:List UInt8))))=true then some 8 else (ct (nth y1 2) (mw v0.number)).bind λy5=>if ((nth y1 2) && (!y5))=true then some 12 else (ct (nth y1 4) (rK v0)).bind λy6=>if ((nth y1 4) && (!y6))=true then some 6 else some 0
def kH (gj:ai) (vY:Int) (aE:Int):Option (Int ⊕ Int) :=
 if (decide (aE<(gj.aJ.length:Int)))=true then (ck ((0:Int)<=aE/\aE<(gj.aJ.length:Int)) (if (((nth gj.aJ aE.toNat).id)==vY)=true then some (.inr aE) else ck (cR (aE+1)) (some (.inl (aE+1))))) else some (.inr (-1))
def jY (gj:ai) (vY:Int):Option Int :=
 loop (λs=>kH gj vY s) 0
def pK (gj:ai) (vY:Int) (aE:Int):Option (Int ⊕ Int) :=
 if (decide (aE<(gj.bm.length:Int)))=true then (ck ((0:Int)<=aE/\aE<(gj.bm.length:Int)) (if (((nth gj.bm aE.toNat).id)==vY)=true then some (.inr aE) else ck (cR (aE+1)) (some (.inl (aE+1))))) else some (.inr (-1))
def nm (gj:ai) (vY:Int):Option Int :=
 loop (λs=>pK gj vY s) 0
def mF (gj:ai) (vY:Int) (aE:Int):Option (Int ⊕ Bool) :=
 if (decide (aE<(gj.ended.length:Int)))=true then (ck ((0:Int)<=aE/\aE<(gj.ended.length:Int)) (if ((nth gj.ended aE.toNat)==vY)=true then some (.inr true) else ck (cR (aE+1)) (some (.inl (aE+1))))) else some (.inr false)
def kU (gj:ai) (vY:Int):Option Bool :=
 loop (λs=>mF gj vY s) 0
def oe (gj:ai) (vY:Int) (aE:Int):Option (Int ⊕ Bool) :=
 if (decide (aE<(gj.bm.length:Int)))=true then (ck ((0:Int)<=aE/\aE<(gj.bm.length:Int)) (ck ((((nth gj.bm aE.toNat).aw)==vY)=true->((0:Int)<=aE/\aE<(gj.bm.length:Int))) ((ct (((nth gj.bm aE.toNat).aw)==vY) (kU gj (nth gj.bm aE.toNat).id)).bind λy1=>if ((((nth gj.bm aE.toNat).aw)==vY) && (!y1))=true then some (.inr true) else ck (cR (aE+1)) (some (.inl (aE+1)))))) else some (.inr false)
def tX (gj:ai) (vY:Int):Option Bool :=
 loop (λs=>oe gj vY s) 0
def lD (gj:ai) (sK:Event):Option Int :=
 (jY gj sK.aw).bind λy1=>if (sK.kind==1)=true then (if (decide (y1>=0))=true then some 10 else some 0) else if (decide (y1<0))=true then some 11 else ck ((0:Int)<=y1/\y1<(gj.aJ.length:Int)) (if ((nth gj.aJ y1.toNat).closed)=true then some 17 else (ct (sK.kind==3) (nm gj sK.sub)).bind λy2=>if ((sK.kind==3) && (decide (y2>=0)))=true then some 10 else (ct (sK.kind==2) (tX gj sK.aw)).bind λy3=>ck (((!((sK.kind==2) && y3)) && (decide (sK.kind > 13)))=true->((0:Int)<=y1/\y1<(gj.aJ.length:Int))) (if (((sK.kind==2) && y3) || ((decide (sK.kind > 13)) && (!(nth gj.aJ y1.toNat).fO)))=true then some 22 else some 0))
def pL (jS:List (List UInt8)) (ye:List UInt8) (aE:Int):Option (Int ⊕ Bool) :=
 if (decide (aE<(jS.length:Int)))=true then (ck ((0:Int)<=aE/\aE<(jS.length:Int)) (if ((nth jS aE.toNat)==ye)=true then some (.inr true) else ck (cR (aE+1)) (some (.inl (aE+1))))) else some (.inr false)
def nn (jS:List (List UInt8)) (ye:List UInt8):Option Bool :=
 loop (λs=>pL jS ye s) 0
def mG (gj:ai) (eJ:List UInt8) (aE:Int):Option (Int ⊕ Bool) :=
 if (decide (aE<(gj.bm.length:Int)))=true then (ck ((0:Int)<=aE/\aE<(gj.bm.length:Int)) ((nn (nth gj.bm aE.toNat).numbers eJ).bind λy1=>if y1=true then some (.inr true) else ck (cR (aE+1)) (some (.inl (aE+1))))) else some (.inr false)
def rL (gj:ai) (eJ:List UInt8):Option Bool :=
 loop (λs=>mG gj eJ s) 0
def kI (v0:ai) (v1:Event) (y1:Int) (Hl:Bool):Option Int :=
 if Hl=true then (if (((nth v0.bm y1.toNat).family)==(v1.kind==12))=true then some 22 else some 0) else some 0
def kJ (v0:ai) (v1:Event) (y1:Int) (Hm:Bool):Option Int :=
 if Hm=true then (if (((nth v0.bm y1.toNat).bO)==(v1.kind==10))=true then some 22 else some 0) else if (v1.kind==12)=true then (kI v0 v1 y1 (v1.kind==12)) else kI v0 v1 y1 (v1.kind==13)
def rM (v0:ai) (v1:Event):Option Int :=
 (nm v0 v1.sub).bind λy1=>if (decide (y1<0))=true then some 11 else (kU v0 v1.sub).bind λy2=>if y2=true then some 17 else ck ((0:Int)<=y1/\y1<(v0.bm.length:Int)) (if (v1.kind==5)=true then ((rL v0 v1.number).bind λy3=>if y3=true then some 12 else some 0) else if (v1.kind==6)=true then ((nn (nth v0.bm y1.toNat).numbers v1.number).bind λy4=>if (!y4)=true then some 12 else some 0) else if (v1.kind==8)=true then ((nn (nth v0.bm y1.toNat).cz v1.name).bind λy5=>if y5=true then some 10 else some 0) else if (v1.kind==9)=true then ((nn (nth v0.bm y1.toNat).cz v1.name).bind λy6=>if (!y6)=true then some 11 else some 0) else if (v1.kind==10)=true then (kJ v0 v1 y1 (v1.kind==10)) else kJ v0 v1 y1 (v1.kind==11))
def oV (gj:ai) (sK:Event) (qx:Int):Option Int :=
 (tW sK qx).bind λy1=>if (y1 != 0)=true then some y1 else (qE sK.kind).bind λy2=>if (nth y2 0)=true then ((lD gj sK).bind λy3=>some y3) else (rM gj sK).bind λy4=>some y4
def lJ (jS:List (List UInt8)) (ye:List UInt8) (cg:Int):Option (List (List UInt8)) :=
 ck ((0:Int)<=cg/\cg<=(jS.length:Int)) (ck (([]:List (List UInt8)).length+(jS.take cg.toNat).length<=1000000000) (ck ((([]:List (List UInt8))++(jS.take cg.toNat)).length+([ye]:List (List UInt8)).length<=1000000000) (ck ((0:Int)<=cg/\cg<=(jS.length:Int)) (ck (((([]:List (List UInt8))++(jS.take cg.toNat))++([ye]:List (List UInt8))).length+(jS.drop cg.toNat).length<=1000000000) (some (((([]:List (List UInt8))++(jS.take cg.toNat))++([ye]:List (List UInt8)))++(jS.drop cg.toNat)))))))
def vk (jS:List (List UInt8)) (ye:List UInt8) (di:Int):Option (Int ⊕ (List (List UInt8))) :=
 ck ((decide (di<(jS.length:Int)))=true->((0:Int)<=di/\di<(jS.length:Int))) (if ((decide (di<(jS.length:Int))) && (nH (nth jS di.toNat) ye))=true then (ck (cR (di+1)) (some (.inl (di+1)))) else (lJ jS ye di).map (λz=>.inr z))
def qF (jS:List (List UInt8)) (ye:List UInt8):Option (List (List UInt8)) :=
 loop (λs=>vk jS ye s) 0
def qG (jS:List (List UInt8)) (ye:List UInt8) (gJ:List (List UInt8)) (dn:Int):Option ((List (List UInt8)×Int) ⊕ (List (List UInt8))) :=
 if (decide (dn<(jS.length:Int)))=true then (ck ((0:Int)<=dn/\dn<(jS.length:Int)) (if ((nth jS dn.toNat) != ye)=true then (ck ((0:Int)<=dn/\dn<(jS.length:Int)) (ck (gJ.length+([nth jS dn.toNat]:List (List UInt8)).length<=1000000000) (ck (cR (dn+1)) (some (.inl (gJ++([nth jS dn.toNat]:List (List UInt8)),dn+1)))))) else ck (cR (dn+1)) (some (.inl (gJ,dn+1))))) else some (.inr gJ)
def lK (jS:List (List UInt8)) (ye:List UInt8):Option (List (List UInt8)) :=
 loop (λs=>qG jS ye s.1 s.2) (([]:List (List UInt8)),0)
def og (bU:Sub) (sK:Event):Option Sub :=
 if (sK.kind==4)=true then some (⟨bU.id,bU.aw,bU.since,bU.vP,([]:List (List UInt8)),([]:List (List UInt8)),bU.bO,bU.family⟩:Sub) else if (sK.kind==5)=true then ((qF bU.numbers sK.number).bind λy1=>some (⟨bU.id,bU.aw,bU.since,bU.vP,y1,bU.cz,bU.bO,bU.family⟩:Sub)) else if (sK.kind==6)=true then ((lK bU.numbers sK.number).bind λy2=>some (⟨bU.id,bU.aw,bU.since,bU.vP,y2,bU.cz,bU.bO,bU.family⟩:Sub)) else if (sK.kind==7)=true then some (⟨bU.id,bU.aw,bU.since,sK.name,bU.numbers,bU.cz,bU.bO,bU.family⟩:Sub) else if (sK.kind==8)=true then ((qF bU.cz sK.name).bind λy3=>some (⟨bU.id,bU.aw,bU.since,bU.vP,bU.numbers,y3,bU.bO,bU.family⟩:Sub)) else if (sK.kind==9)=true then ((lK bU.cz sK.name).bind λy4=>some (⟨bU.id,bU.aw,bU.since,bU.vP,bU.numbers,y4,bU.bO,bU.family⟩:Sub)) else if (sK.kind==10)=true then some (⟨bU.id,bU.aw,bU.since,bU.vP,bU.numbers,bU.cz,true,bU.family⟩:Sub) else if (sK.kind==11)=true then some (⟨bU.id,bU.aw,bU.since,bU.vP,bU.numbers,bU.cz,false,bU.family⟩:Sub) else if (sK.kind==12)=true then some (⟨bU.id,bU.aw,bU.since,bU.vP,bU.numbers,bU.cz,bU.bO,true⟩:Sub) else if (sK.kind==13)=true then some (⟨bU.id,bU.aw,bU.since,bU.vP,bU.numbers,bU.cz,bU.bO,false⟩:Sub) else some bU
def jd (v0:ai) (v1:Event) (Hn:Bool):Option ai :=
 if Hn=true then some (⟨([]:List aq)++v0.aJ,([]:List Sub)++v0.bm,([]:List Int)++v0.ended⟩:ai) else (nm v0 v1.sub).bind λy2=>ck ((0:Int)<=y2/\y2<((([]:List Sub)++v0.bm).length:Int)) (ck (y2.toNat<(([]:List Sub)++v0.bm).length) ((og (nth (([]:List Sub)++v0.bm) y2.toNat) v1).bind λy3=>ck ((0:Int)<=y2/\y2<((([]:List Sub)++v0.bm).length:Int)) (ck (y2.toNat<(([]:List Sub)++v0.bm).length) (if (v1.kind==4)=true then (ck ((([]:List Int)++v0.ended).length+([v1.sub]:List Int).length<=1000000000) (some (⟨([]:List aq)++v0.aJ,(([]:List Sub)++v0.bm).set y2.toNat y3,(([]:List Int)++v0.ended)++([v1.sub]:List Int)⟩:ai))) else some (⟨([]:List aq)++v0.aJ,(([]:List Sub)++v0.bm).set y2.toNat y3,([]:List Int)++v0.ended⟩:ai)))))
def gP (v0:ai) (v1:Event):Option ai :=
 ck (v0.aJ.length<=1000000000) (ck (v0.bm.length<=1000000000) (ck (v0.ended.length<=1000000000) (if (v1.kind==1)=true then (ck ((([]:List aq)++v0.aJ).length+([(⟨v1.aw,v1.at_,v1.value,(v1.name==([112,114,101,112,97,105,100]:List UInt8)),false,([]:List Int)⟩:aq)]:List aq).length<=1000000000) (some (⟨(([]:List aq)++v0.aJ)++([(⟨v1.aw,v1.at_,v1.value,(v1.name==([112,114,101,112,97,105,100]:List UInt8)),false,([]:List Int)⟩:aq)]:List aq),([]:List Sub)++v0.bm,([]:List Int)++v0.ended⟩:ai))) else if (v1.kind==2)=true then ((jY v0 v1.aw).bind λy1=>ck ((0:Int)<=y1/\y1<((([]:List aq)++v0.aJ).length:Int)) (ck (y1.toNat<(([]:List aq)++v0.aJ).length) (some (⟨(([]:List aq)++v0.aJ).set y1.toNat (⟨(nth (([]:List aq)++v0.aJ) y1.toNat).id,(nth (([]:List aq)++v0.aJ) y1.toNat).since,(nth (([]:List aq)++v0.aJ) y1.toNat).anchor,(nth (([]:List aq)++v0.aJ) y1.toNat).fO,true,([]:List Int)⟩:aq),([]:List Sub)++v0.bm,([]:List Int)++v0.ended⟩:ai)))) else if (v1.kind==3)=true then (ck ((([]:List Sub)++v0.bm).length+([(⟨v1.sub,v1.aw,v1.at_,v1.name,([]:List (List UInt8)),([]:List (List UInt8)),false,false⟩:Sub)]:List Sub).length<=1000000000) (some (⟨([]:List aq)++v0.aJ,(([]:List Sub)++v0.bm)++([(⟨v1.sub,v1.aw,v1.at_,v1.name,([]:List (List UInt8)),([]:List (List UInt8)),false,false⟩:Sub)]:List Sub),([]:List Int)++v0.ended⟩:ai))) else if (v1.kind==14)=true then (jd v0 v1 (v1.kind==14)) else jd v0 v1 (v1.kind==15))))
def mH (az:List Event) (yf:Int) (dn:Int) (dE:List aq) (Cz:List Sub) (CA:List Int):Option ((Int×Int×List aq×List Sub×List Int) ⊕ (Int×Int)) :=
 if (decide (dn<(az.length:Int)))=true then (ck ((0:Int)<=dn/\dn<(az.length:Int)) ((oV (⟨dE,Cz,CA⟩:ai) (nth az dn.toNat) yf).bind λy1=>if (y1 != 0)=true then some (.inr (dn,y1)) else ck ((0:Int)<=dn/\dn<(az.length:Int)) ((gP (⟨dE,Cz,CA⟩:ai) (nth az dn.toNat)).bind λy2=>ck ((0:Int)<=dn/\dn<(az.length:Int)) (ck (cR (dn+1)) (some (.inl ((nth az dn.toNat).at_,dn+1,y2.aJ,y2.bm,y2.ended))))))) else some (.inr (0,0))
def rN (az:List Event):Option (Int×Int) :=
 if (decide ((az.length:Int) > 4096))=true then some (0,5) else loop (λs=>mH az s.1 s.2.1 s.2.2.1 s.2.2.2.1 s.2.2.2.2) (0,0,([]:List aq),([]:List Sub),([]:List Int))
def pM (az:List Event):Option Bool :=
 if (decide ((az.length:Int) > 40))=true then some false else (rN az).bind λy1=>some (y1.2==0)
def ta (az:List Event) (bz:Int):Option (Int ⊕ Bool) :=
 if ((decide (bz<(az.length:Int))) && (decide (bz<41)))=true then (ck ((0:Int)<=bz/\bz<(az.length:Int)) (ck ((!(decide ((((nth az bz.toNat).name).length:Int) > 200)))=true->((0:Int)<=bz/\bz<(az.length:Int))) (if ((decide ((((nth az bz.toNat).name).length:Int) > 200)) || (decide ((((nth az bz.toNat).number).length:Int) > 200)))=true then some (.inr false) else ck (cR (bz+1)) (some (.inl (bz+1)))))) else (pM az).map (λz=>.inr z)
def v7 (az:List Event):Option Bool :=
 loop (λs=>ta az s) 0
def kK (du:ah):Option Bool :=
 (rz du).bind λy1=>(ct y1 (rJ du)).bind λy2=>some (y1 && y2)
def oh (az:List Event) (F5:Int) (dn:Int) (cF:List aq) (pG:List Sub) (pH:List Int):Option ((Int×List aq×List Sub×List Int) ⊕ ai) :=
 if (decide (dn<(az.length:Int)))=true then (ck ((0:Int)<=dn/\dn<(az.length:Int)) (if (decide (((nth az dn.toNat).at_)<=F5))=true then (ck ((0:Int)<=dn/\dn<(az.length:Int)) ((gP (⟨cF,pG,pH⟩:ai) (nth az dn.toNat)).bind λy1=>ck (cR (dn+1)) (some (.inl (dn+1,y1.aJ,y1.bm,y1.ended))))) else ck (cR (dn+1)) (some (.inl (dn+1,cF,pG,pH))))) else some (.inr (⟨cF,pG,pH⟩:ai))
def qH (az:List Event) (F5:Int):Option ai :=
 loop (λs=>oh az F5 s.1 s.2.1 s.2.2.1 s.2.2.2) (0,([]:List aq),([]:List Sub),([]:List Int))
def mI (y1:ai) (vl:Int) (bV:List aq) (y2:Int) (wX:List Int):Option ((Int×List aq) ⊕ cj) :=
 ck (bV.length+([(⟨(nth y1.aJ y2.toNat).id,(nth y1.aJ y2.toNat).since,(nth y1.aJ y2.toNat).anchor,(nth y1.aJ y2.toNat).fO,(nth y1.aJ y2.toNat).closed,wX⟩:aq)]:List aq).length<=1000000000) (ck (cR (vl+1)) (some (.inl (vl+1,bV++([(⟨(nth y1.aJ y2.toNat).id,(nth y1.aJ y2.toNat).since,(nth y1.aJ y2.toNat).anchor,(nth y1.aJ y2.toNat).fO,(nth y1.aJ y2.toNat).closed,wX⟩:aq)]:List aq)))))
def pN (y1:ai) (gh:List Sub) (vl:Int) (bV:List aq) (y2:Int) (nB:Int) (tY:List Int):Option ((Int×List Int) ⊕ ((Int×List aq) ⊕ cj)) :=
 if (decide (nB<(gh.length:Int)))=true then (ck ((0:Int)<=nB/\nB<(gh.length:Int)) (if (((nth gh nB.toNat).aw)==vl)=true then (ck ((0:Int)<=nB/\nB<(gh.length:Int)) (ck (tY.length+([(nth gh nB.toNat).id]:List Int).length<=1000000000) (ck (cR (nB+1)) (some (.inl (nB+1,tY++([(nth gh nB.toNat).id]:List Int))))))) else ck (cR (nB+1)) (some (.inl (nB+1,tY))))) else (mI y1 vl bV y2 tY).map (λz=>.inr z)
def pO (y1:ai) (gh:List Sub) (vl:Int) (bV:List aq):Option ((Int×List aq) ⊕ cj) :=
 if ((decide (vl<=9999)) && (decide ((bV.length:Int)<(y1.aJ.length:Int))))=true then ((jY y1 vl).bind λy2=>if (decide (y2<0))=true then (ck (cR (vl+1)) (some (.inl (vl+1,bV)))) else ck ((0:Int)<=y2/\y2<(y1.aJ.length:Int)) (loop (λs=>pN y1 gh vl bV y2 s.1 s.2) (0,([]:List Int)))) else some (.inr (⟨bV,gh⟩:cj))
def kL (y1:ai) (gh:List Sub):Option cj :=
 loop (λs=>pO y1 gh s.1 s.2) (1,([]:List aq))
def kM (y1:ai) (Ax:Int) (pP:List Sub):Option ((Int×List Sub) ⊕ cj) :=
 ck ((decide (Ax<=9999))=true->(cR ((y1.bm.length:Int) - (y1.ended.length:Int)))) (if ((decide (Ax<=9999)) && (decide ((pP.length:Int)<((y1.bm.length:Int) - (y1.ended.length:Int)))))=true then ((nm y1 Ax).bind λy3=>(ct (decide (y3>=0)) (kU y1 Ax)).bind λy4=>if ((decide (y3>=0)) && (!y4))=true then (ck ((0:Int)<=y3/\y3<(y1.bm.length:Int)) (ck (pP.length+([nth y1.bm y3.toNat]:List Sub).length<=1000000000) (ck (cR (Ax+1)) (some (.inl (Ax+1,pP++([nth y1.bm y3.toNat]:List Sub))))))) else ck (cR (Ax+1)) (some (.inl (Ax+1,pP)))) else (kL y1 pP).map (λz=>.inr z))
def rO (v0:List Event) (v1:Int):Option cj :=
 (qH v0 v1).bind λy1=>loop (λs=>kM y1 s.1 s.2) (1,([]:List Sub))
def mJ (eJ:List UInt8) (y1:cj) (cC:Int):Option (Int ⊕ (Int×Bool)) :=
 if (decide (cC<(y1.bm.length:Int)))=true then (ck ((0:Int)<=cC/\cC<(y1.bm.length:Int)) ((nn (nth y1.bm cC.toNat).numbers eJ).bind λy2=>if y2=true then (ck ((0:Int)<=cC/\cC<(y1.bm.length:Int)) (some (.inr ((nth y1.bm cC.toNat).id,true)))) else ck (cR (cC+1)) (some (.inl (cC+1))))) else some (.inr (0,false))
def rP (az:List Event) (eJ:List UInt8) (It:Int):Option (Int×Bool) :=
 (rO az It).bind λy1=>loop (λs=>mJ eJ y1 s) 0
def v8 (az:List Event) (wV:Int) (It:Int):Option (Sub×Bool) :=
 (qH az It).bind λy1=>(nm y1 wV).bind λy2=>(ct (!(decide (y2<0))) (kU y1 wV)).bind λy3=>if ((decide (y2<0)) || y3)=true then some ((⟨0,0,0,([]:List UInt8),([]:List (List UInt8)),([]:List (List UInt8)),false,false⟩:Sub),false) else ck ((0:Int)<=y2/\y2<(y1.bm.length:Int)) (some (nth y1.bm y2.toNat,true))
def je (v0:List Event) (v1:aa) (v2:Int) (Mf:List UInt8):Option (aA×Int) :=
 (rP v0 Mf v1.start).bind λy2=>if ((!y2.2) || (Mf==([]:List UInt8)))=true then some ((⟨0,0,0,0,([]:List UInt8),([]:List UInt8),0,0,0,false,0,0⟩:aA),11) else (v8 v0 y2.1 v1.start).bind λy3=>if (y3.1.bO && (!v1.bI))=true then some ((⟨0,0,0,0,([]:List UInt8),([]:List UInt8),0,0,0,false,0,0⟩:aA),16) else some ((⟨v2,v1.kind,y3.1.aw,y2.1,v1.a,v1.b,v1.start,v1.cJ,v1.cT,v1.bI,v1.source,v1.aZ⟩:aA),0)
def mK (v0:List Event) (v1:aa) (v2:Int):Option (aA×Int) :=
 (gO v1).bind λy1=>if (y1 != 0)=true then some ((⟨0,0,0,0,([]:List UInt8),([]:List UInt8),0,0,0,false,0,0⟩:aA),y1) else if (v1.part != 0)=true then some ((⟨0,0,0,0,([]:List UInt8),([]:List UInt8),0,0,0,false,0,0⟩:aA),8) else if v1.bI=true then (je v0 v1 v2 v1.b) else je v0 v1 v2 v1.a
def mL (iH:ah) (lq:List aA) (pQ:List aa):Option ah :=
 ck (iH.bu.length<=1000000000) (some (⟨iH.aM,lq,pQ,iH.bu⟩:ah))
def mM (az:List Event) (iH:ah) (gQ:List aa) (dA:List aA) (im:List aa) (cC:Int):Option ((List aA×List aa×Int) ⊕ ah) :=
 if (decide (cC<(gQ.length:Int)))=true then (ck ((0:Int)<=cC/\cC<(gQ.length:Int)) (ck (cR ((dA.length:Int)+1)) ((mK az (nth gQ cC.toNat) ((dA.length:Int)+1)).bind λy1=>if (y1.2==0)=true then (ck (dA.length+([y1.1]:List aA).length<=1000000000) (ck (cR (cC+1)) (some (.inl (dA++([y1.1]:List aA),im,cC+1))))) else ck ((0:Int)<=cC/\cC<(gQ.length:Int)) (ck (im.length+([nth gQ cC.toNat]:List aa).length<=1000000000) (ck (cR (cC+1)) (some (.inl (dA,im++([nth gQ cC.toNat]:List aa),cC+1)))))))) else (mL iH dA im).map (λz=>.inr z)
def oW (az:List Event) (iH:ah) (gQ:List aa):Option ah :=
 ck (([]:List aA).length+iH.usages.length<=1000000000) (ck (([]:List aa).length+iH.aP.length<=1000000000) (loop (λs=>mM az iH gQ s.1 s.2.1 s.2.2) (([]:List aA)++iH.usages,([]:List aa)++iH.aP,0)))
def yg (iH:ah) (lq:List aA) (pQ:List aa):Option ((List Range)×(List aa)×(List Head)×(List aA)×(List aa)×(List ak)) :=
 ck (([]:List ak).length+iH.bu.length<=1000000000) (some (iH.aM.seen,iH.aM.open_,iH.aM.aT,lq,pQ,([]:List ak)++iH.bu))
def pR (az:List Event) (iH:ah) (gQ:List aa) (dA:List aA) (im:List aa) (cC:Int):Option ((List aA×List aa×Int) ⊕ ((List Range)×(List aa)×(List Head)×(List aA)×(List aa)×(List ak))) :=
 if (decide (cC<(gQ.length:Int)))=true then (ck ((0:Int)<=cC/\cC<(gQ.length:Int)) (ck (cR ((dA.length:Int)+1)) ((mK az (nth gQ cC.toNat) ((dA.length:Int)+1)).bind λy1=>if (y1.2==0)=true then (ck (dA.length+([y1.1]:List aA).length<=1000000000) (ck (cR (cC+1)) (some (.inl (dA++([y1.1]:List aA),im,cC+1))))) else ck ((0:Int)<=cC/\cC<(gQ.length:Int)) (ck (im.length+([nth gQ cC.toNat]:List aa).length<=1000000000) (ck (cR (cC+1)) (some (.inl (dA,im++([nth gQ cC.toNat]:List aa),cC+1)))))))) else (yg iH dA im).map (λz=>.inr z)
def Dw (az:List Event) (iH:ah) (gQ:List aa):Option ((List Range)×(List aa)×(List Head)×(List aA)×(List aa)×(List ak)) :=
 ck (([]:List aA).length+iH.usages.length<=1000000000) (ck (([]:List aa).length+iH.aP.length<=1000000000) (loop (λs=>pR az iH gQ s.1 s.2.1 s.2.2) (([]:List aA)++iH.usages,([]:List aa)++iH.aP,0)))
def rf (fE:List Range) (gx:List Range) (aE:Int):Option (Int ⊕ Bool) :=
 if (decide (aE<(fE.length:Int)))=true then (ck ((0:Int)<=aE/\aE<(fE.length:Int)) (ck ((0:Int)<=aE/\aE<(gx.length:Int)) (if (!(eI (Range.bR (nth fE aE.toNat)) (Range.bR (nth gx aE.toNat))))=true then some (.inr false) else ck (cR (aE+1)) (some (.inl (aE+1)))))) else some (.inr true)
def tZ (fE:List Range) (gx:List Range):Option Bool :=
 if ((fE.length:Int) != (gx.length:Int))=true then some false else loop (λs=>rf fE gx s) 0
def rh (fE:List aa) (gx:List aa) (aE:Int):Option (Int ⊕ Bool) :=
 if (decide (aE<(fE.length:Int)))=true then (ck ((0:Int)<=aE/\aE<(fE.length:Int)) (ck ((0:Int)<=aE/\aE<(gx.length:Int)) (if (!(eI (aa.bR (nth fE aE.toNat)) (aa.bR (nth gx aE.toNat))))=true then some (.inr false) else ck (cR (aE+1)) (some (.inl (aE+1)))))) else some (.inr true)
def qI (fE:List aa) (gx:List aa):Option Bool :=
 if ((fE.length:Int) != (gx.length:Int))=true then some false else loop (λs=>rh fE gx s) 0
def oi (fE:aH) (gx:aH):Option Bool :=
 (tZ fE.seen gx.seen).bind λy1=>(ct y1 (qI fE.open_ gx.open_)).bind λy2=>some (y1 && y2)
def ri (fE:aH) (gx:aH) (aE:Int):Option (Int ⊕ Bool) :=
 if (decide (aE<(fE.aT.length:Int)))=true then (ck ((0:Int)<=aE/\aE<(fE.aT.length:Int)) (ck ((0:Int)<=aE/\aE<(gx.aT.length:Int)) (if (!(eI (Head.bR (nth fE.aT aE.toNat)) (Head.bR (nth gx.aT aE.toNat))))=true then some (.inr false) else ck (cR (aE+1)) (some (.inl (aE+1)))))) else (oi fE gx).map (λz=>.inr z)
def ua (fE:aH) (gx:aH):Option Bool :=
 if ((fE.aT.length:Int) != (gx.aT.length:Int))=true then some false else loop (λs=>ri fE gx s) 0
def rj (fE:List aA) (gx:List aA) (aE:Int):Option (Int ⊕ Bool) :=
 if (decide (aE<(fE.length:Int)))=true then (ck ((0:Int)<=aE/\aE<(fE.length:Int)) (ck ((0:Int)<=aE/\aE<(gx.length:Int)) (if (!(eI (aA.bR (nth fE aE.toNat)) (aA.bR (nth gx aE.toNat))))=true then some (.inr false) else ck (cR (aE+1)) (some (.inl (aE+1)))))) else some (.inr true)
def ub (fE:List aA) (gx:List aA):Option Bool :=
 if ((fE.length:Int) != (gx.length:Int))=true then some false else loop (λs=>rj fE gx s) 0
def jD (fE:List ak) (gx:List ak) (aE:Int):Option (Int ⊕ Bool) :=
 if (decide (aE<(fE.length:Int)))=true then (ck ((0:Int)<=aE/\aE<(fE.length:Int)) (ck ((0:Int)<=aE/\aE<(gx.length:Int)) (if (!(eI (ak.bR (nth fE aE.toNat)) (ak.bR (nth gx aE.toNat))))=true then some (.inr false) else ck (cR (aE+1)) (some (.inl (aE+1)))))) else some (.inr true)
def jE (fE:List ak) (gx:List ak):Option Bool :=
 if ((fE.length:Int) != (gx.length:Int))=true then some false else loop (λs=>jD fE gx s) 0
def mN (fE:ah) (gx:ah):Option Bool :=
 (ua fE.aM gx.aM).bind λy1=>(ct y1 (ub fE.usages gx.usages)).bind λy2=>(ct (y1 && y2) (qI fE.aP gx.aP)).bind λy3=>(ct ((y1 && y2) && y3) (jE fE.bu gx.bu)).bind λy4=>some (((y1 && y2) && y3) && y4)
def rQ (az:List Event) (iH:ah):Option ah :=
 (oW az (⟨iH.aM,iH.usages,([]:List aa),iH.bu⟩:ah) iH.aP).bind λy1=>some y1
def mO (al:List aa) (lr:List Int):Option ((List Int) ⊕ (List Int)) :=
 if (decide ((lr.length:Int) > 0))=true then ((iM al lr).bind λy2=>(fQ y2.1).bind λy3=>if y3.2=true then some (.inr lr) else ck (cR ((lr.length:Int) - 1)) (ck ((0:Int)<=(lr.length:Int) - 1/\(lr.length:Int) - 1<=(lr.length:Int)) (some (.inl (lr.take ((lr.length:Int) - 1).toNat))))) else some (.inr ([]:List Int))
def jF (al:List aa):Option (List Int) :=
 (fP al false).bind λy1=>loop (λs=>mO al s) y1
def jG (nv:aa) (bG:Int):Option Bool :=
 some (decide (nv.start>=bG))
def lu (bU:List aa) (bG:Int) (aY:Int):Option (Int ⊕ Int) :=
 if (decide (aY<(bU.length:Int)))=true then (ck ((0:Int)<=aY/\aY<(bU.length:Int)) ((jG (nth bU aY.toNat) bG).bind λy1=>if y1=true then some (.inr aY) else ck (cR (aY+1)) (some (.inl (aY+1))))) else some (.inr (-1))
def lE (bU:List aa) (bG:Int):Option Int :=
 loop (λs=>lu bU bG s) 0
def lF (bU:List aa) (bG:Int):Option Bool :=
 (lE bU bG).bind λy1=>some (decide (y1>=0))
def jm (eD:List aa) (aY:List aa) (y3:Int×Int) (y6:(List aa)×(List aa)) (oQ:List aa) (xn:Int):Option ((List aa×Int) ⊕ ((List aa×List aa×List aa) ⊕ ((List aa)×(List aa)))) :=
 if (decide (xn<(y6.2.length:Int)))=true then (ck ((0:Int)<=xn/\xn<(y6.2.length:Int)) ((gS (nth y6.2 xn.toNat)).bind λy7=>ck (oQ.length+([y7]:List aa).length<=1000000000) (ck (cR (xn+1)) (some (.inl (oQ++([y7]:List aa),xn+1)))))) else some (.inr (.inl (oQ,eD,aY.drop y3.2.toNat)))
def eF (eD:List aa) (aY:List aa) (y3:Int×Int) (y6:(List aa)×(List aa)) (sf:List aa) (gE:Int) (qy:Int) (qz:Int) (qA:List UInt8) (qB:List UInt8) (qC:Int) (jT:Int) (CB:Int) (CC:Int) (CD:Bool) (nh:Int) (ni:Bool):Option ((List aa×List aa×List aa) ⊕ ((List aa)×(List aa))) :=
 loop (λs=>jm eD aY y3 y6 s.1 s.2) (sf,0)
def lO (v1:Int) (p8:List aa) (eD:List aa) (aY:List aa):Option ((List aa×List aa×List aa) ⊕ ((List aa)×(List aa))) :=
 if (decide ((aY.length:Int) > 0))=true then (ck ((0:Int)<=0/\0<(aY.length:Int)) ((da (nth aY (Int.toNat (0)))).bind λy2=>(kq aY y2).bind λy3=>ck ((0:Int)<=y3.2/\y3.2<=(aY.length:Int)) (ck ((0:Int)<=y3.2/\y3.2<=(aY.length:Int)) ((lF (aY.take y3.2.toNat) v1).bind λy4=>if y4=true then (ck (eD.length+(aY.take y3.2.toNat).length<=1000000000) (some (.inl (p8,eD++(aY.take y3.2.toNat),aY.drop y3.2.toNat)))) else (jF (aY.take y3.2.toNat)).bind λy5=>(iM (aY.take y3.2.toNat) y5).bind λy6=>(fQ y6.1).bind λy8=>if y8.2=true then (ck (p8.length+([y8.1]:List aa).length<=1000000000) (eF eD aY y3 y6 (p8++([y8.1]:List aa)) y8.1.source y8.1.aZ y8.1.kind y8.1.a y8.1.b y8.1.start y8.1.cJ y8.1.call y8.1.part y8.1.last y8.1.cT y8.1.bI)) else eF eD aY y3 y6 p8 y8.1.source y8.1.aZ y8.1.kind y8.1.a y8.1.b y8.1.start y8.1.cJ y8.1.call y8.1.part y8.1.last y8.1.cT y8.1.bI)))) else some (.inr (p8,eD))
def jf (v0:List aa) (v1:Int):Option ((List aa)×(List aa)) :=
 (dX v0).bind λy1=>loop (λs=>lO v1 s.1 s.2.1 s.2.2) (([]:List aa),([]:List aa),y1)
def mP (bA:aH) (fp:Int):Option (aH×(List aa)) :=
 (oA bA).bind λy1=>(jf y1.open_ fp).bind λy2=>some ((⟨y1.seen,y2.2,y1.aT⟩:aH),y2.1)
def cX (aQ:List aa) (bh:List Event) (ba:List aA) (de:List aa) (bq:Int):Option ((List aA×List aa×Int) ⊕ ((List aA)×(List aa))) :=
 if (decide (bq<(aQ.length:Int)))=true then (ck ((0:Int)<=bq/\bq<(aQ.length:Int)) (ck (cR ((ba.length:Int)+1)) ((fU bh (nth aQ bq.toNat) ((ba.length:Int)+1)).bind λy1=>if (y1.2==0)=true then (ck (ba.length+([y1.1]:List aA).length<=1000000000) (ck (cR (bq+1)) (some (.inl (ba++([y1.1]:List aA),de,bq+1))))) else ck (de.length+([nth aQ bq.toNat]:List aa).length<=1000000000) (ck (cR (bq+1)) (some (.inl (ba,de++([nth aQ bq.toNat]:List aa),bq+1))))))) else some (.inr (ba,de))
def eT (aQ:List aa) (bG:List Range) (iZ:List aa) (ja:List Head) (bt:List ak) (bh:List Event) (aU:List aA) (gN:List aa):Option ((List aA)×(List aa)) :=
 loop (λs=>cX aQ bh s.1 s.2.1 s.2.2) (aU,gN,0)
def jH (az:List Event) (iH:ah) (jg:Int):Option ah :=
 (fY az iH).bind λy1=>(dX y1.2.2.2.2.2.2).bind λy2=>(mP iH.aM jg).bind λy3=>(eT y3.2 y3.1.seen y3.1.open_ y3.1.aT y1.2.2.2.2.1 y1.2.2.2.2.2.1 y1.2.2.2.1 y2).bind λy4=>some (⟨y3.1,y4.1,y4.2,y1.2.2.2.2.1⟩:ah)
def uV (O7:aa):Option aa :=
 some (⟨O7.source,O7.aZ,O7.kind,O7.a,O7.b,O7.start,O7.cJ,0,0,false,O7.cT,O7.bI⟩:aa)
def tb (y2:(List aa)×(List aa)) (bq:List aa) (bB:Int):Option ((List aa×Int) ⊕ (List aa)) :=
 if (decide (bB<(y2.2.length:Int)))=true then (ck ((0:Int)<=bB/\bB<(y2.2.length:Int)) ((uV (nth y2.2 bB.toNat)).bind λy3=>ck (bq.length+([y3]:List aa).length<=1000000000) (ck (cR (bB+1)) (some (.inl (bq++([y3]:List aa),bB+1)))))) else some (.inr bq)
def lv (y2:(List aa)×(List aa)) (Ff:List aa) (CE:Int) (CF:Int) (CG:Int) (CH:List UInt8) (CI:List UInt8) (CJ:Int) (pr:Int) (CK:Int) (CL:Int) (CM:Bool) (yQ:Int) (yR:Bool):Option (List aa) :=
 loop (λs=>tb y2 s.1 s.2) (Ff,0)
def lx (v0:List aa) (Ow:List Int):Option (List aa) :=
 (oP v0 Ow).bind λy2=>(kT y2.1).bind λy4=>if y4.2=true then (ck (([]:List aa).length+([y4.1]:List aa).length<=1000000000) (lv y2 (([]:List aa)++([y4.1]:List aa)) y4.1.source y4.1.aZ y4.1.kind y4.1.a y4.1.b y4.1.start y4.1.cJ y4.1.call y4.1.part y4.1.last y4.1.cT y4.1.bI)) else lv y2 ([]:List aa) y4.1.source y4.1.aZ y4.1.kind y4.1.a y4.1.b y4.1.start y4.1.cJ y4.1.call y4.1.part y4.1.last y4.1.cT y4.1.bI
def pS (v0:List aa) (fH:List Int):Option ((List Int) ⊕ (List aa)) :=
 if (decide ((fH.length:Int) > 0))=true then ((oP v0 fH).bind λy5=>(kT y5.1).bind λy6=>if y6.2=true then ((lx v0 fH).map (λz=>.inr z)) else ck (cR ((fH.length:Int) - 1)) (ck ((0:Int)<=(fH.length:Int) - 1/\(fH.length:Int) - 1<=(fH.length:Int)) (some (.inl (fH.take ((fH.length:Int) - 1).toNat))))) else (lx v0 fH).map (λz=>.inr z)
def tu (v0:List aa):Option (List aa) :=
 ck ((0:Int)<=0/\0<(v0.length:Int)) ((ng v0 (nth v0 (Int.toNat (0))) false).bind λy1=>loop (λs=>pS v0 s) y1)
def hZ (bN:List aa) (b9:List aa) (fJ:List aa) (cA:Int) (rR:Int) (tv:Bool):Option ((List aa×List aa×Int) ⊕ ((List aa)×(List aa))) :=
 if tv=true then (ck ((0:Int)<=cA/\cA<=rR/\rR<=(bN.length:Int)) (ck (fJ.length+((bN.take rR.toNat).drop cA.toNat).length<=1000000000) (some (.inl (b9,fJ++((bN.take rR.toNat).drop cA.toNat),rR))))) else ck ((0:Int)<=cA/\cA<=rR/\rR<=(bN.length:Int)) ((tu ((bN.take rR.toNat).drop cA.toNat)).bind λy1=>ck (b9.length+y1.length<=1000000000) (some (.inl (b9++y1,fJ,rR))))
def jt (bN:List aa) (fp:Int) (b9:List aa) (fJ:List aa) (cA:Int) (om:Int) (oX:Bool):Option ((Int×Bool) ⊕ ((List aa×List aa×Int) ⊕ ((List aa)×(List aa)))) :=
 ck ((decide (om<(bN.length:Int)))=true->((0:Int)<=om/\om<(bN.length:Int))) (ck ((decide (om<(bN.length:Int)))=true->((0:Int)<=cA/\cA<(bN.length:Int))) ((ct (decide (om<(bN.length:Int))) (mx (nth bN om.toNat) (nth bN cA.toNat))).bind λy2=>if ((decide (om<(bN.length:Int))) && y2)=true then (ck ((!oX)=true->((0:Int)<=om/\om<(bN.length:Int))) (ck (cR (om+1)) (some (.inl (om+1,(oX || (decide (((nth bN om.toNat).start)>=fp)))))))) else (hZ bN b9 fJ cA om oX).map (λz=>.inr z)))
def sx (bN:List aa) (fp:Int) (b9:List aa) (fJ:List aa) (cA:Int):Option ((List aa×List aa×Int) ⊕ ((List aa)×(List aa))) :=
 if (decide (cA<(bN.length:Int)))=true then (loop (λs=>jt bN fp b9 fJ cA s.1 s.2) (cA,false)) else some (.inr (b9,fJ))
def pT (bN:List aa) (fp:Int):Option ((List aa)×(List aa)) :=
 loop (λs=>sx bN fp s.1 s.2.1 s.2.2) (([]:List aa),([]:List aa),0)
def rT (bA:aH) (fp:Int):Option (aH×(List aa)) :=
 (pT bA.open_ fp).bind λy1=>ck (bA.seen.length<=1000000000) (ck (bA.aT.length<=1000000000) (some ((⟨bA.seen,y1.2,bA.aT⟩:aH),y1.1)))
def rU (az:List Event) (iH:ah) (jg:Int):Option ah :=
 (rT iH.aM jg).bind λy1=>(oW az iH y1.2).bind λy2=>some (⟨y1.1,y2.usages,y2.aP,y2.bu⟩:ah)
def iC (az:List Event) (iH:ah) (jg:Int):Option Bool :=
 (v7 az).bind λy1=>(ct (!(!y1)) (kK iH)).bind λy2=>if ((!y1) || (!y2))=true then ((rC).bind λy3=>some y3) else (gX az iH).bind λy4=>(rQ az iH).bind λy5=>(mN y4 y5).bind λy6=>(ct y6 (jH az iH jg)).bind λy7=>(ct y6 (rU az iH jg)).bind λy8=>(ct y6 (mN y7 y8)).bind λy9=>(ct (y6 && y9) rC).bind λQl=>some ((y6 && y9) && Ql)
def ei (base:Nat) (w:World) (v:Value) (n:Nat) (xs:List Value) (v':Value) (w':World):Prop :=
 w'.ownsRow base 58 12 v' n xs/\((v'.ownBlock=v.ownBlock/\w'.heap.size=w.heap.size/\w.grownBy w' v.ownBlock)∨(v'.ownBlock=some w.heap.size/\Below w.heap.size w w'))
theorem vm {base m:Nat} {w:World} {u:Value} {ys:List Value} (hu:w.ownsRow base 58 12 u m ys) (h1:∀ y∈ys,y.oneCell'=true):Go.Abs.Src Tryz.prog w 12 u m ys:=by
 rcases hu.2 with ⟨rfl,rfl⟩|⟨b,cap,cur,rfl,hb,hg,EA,zb,yC,Dd⟩
 ·have:ys=[]:=zaw (by simpa using hu.1);subst this;exact ⟨rfl,λw' _=>run_firstCells_none w' _ 0 0 _,by simp,by simp⟩
 ·refine ⟨rfl,λw' hw=>run_firstCells_some w' _ m _ m cap ys hu.1 λj y hj=>?_,hu.1,h1⟩;rw [World.cell?_of_block (w:=w) (by rw [hw])];exact hu.cells (g:=b) rfl j y hj
theorem Gj (w:World) {base n m:Nat} {v u:Value} {xs ys:List Value} (hs:w.ownsRow base 58 12 v n xs) (hu:w.ownsRow base 58 12 u m ys) (hm:0<m) (hb:n+m<=1000000000) (kf:base<=w.heap.size) (h1:∀ y∈ys,y.oneCell'=true) :
  Calls Tryz.prog 132 #[v,.int .i64 n,u] w λe w'=>∃ v',e=.returned v'/\ei base w v (n+m) (xs++ys) v' w':=by
 have t3:=Tryz.underlying3;have t22:=Tryz.underlying23;have u3:=run_underlying Tryz.underlying3;have RE:=run_underlying Tryz.underlying23;have LR:¬ ((m:Int)=0):=by omega
 obtain ⟨i,hi,hz,fB,Ei⟩:=gw;obtain ⟨v',w',hC,j5,_,hc⟩:=kR (P:=Tryz.prog) (ty:=23) w Tryz.underlying23 Tryz.underlying23 (.inr ⟨_,rfl⟩) hi hz fB (by rfl) hs (vm hu h1) (by simp only [maxLen];omega) (by rw [Ei];omega) kf;rcases hu.2 with ⟨_,h0⟩|⟨vb,vc,CN,rfl,_⟩
 ·omega
 rcases hs.2 with ⟨rfl,rfl⟩|⟨b,c,cur,rfl,AT,hg,EA,zb,yC,Dd⟩
 ·go_enter Tryz.func132,Tryz.ntmps132
  go_wp2_with (at_builtin;refine Lib.wpList_append_run _ rfl _ _ _ _ rfl _ _ rfl rfl _ _ hC ?_)
  go_ret;exact ⟨_,rfl,j5,hc⟩
 ·go_enter Tryz.func132,Tryz.ntmps132
  go_wp2_with (at_builtin;refine Lib.wpList_append_run _ rfl _ _ _ _ rfl _ _ rfl rfl _ _ hC ?_)
  all_goals (go_ret;exact ⟨_,rfl,j5,hc⟩)
theorem ju {w:World} {base b n c:Nat} {xs:List Value} (hs:w.ownsRow base 58 12 (.slice (some ⟨b,0,none⟩) n c) n xs):base<=b/\n<=c/\c<=maxLen/\∃ cur:Array Value,w.heap[b]?=some (.cells cur 58 (0,0))/\cur.size=c*12/\cur.toList.take (n*12)=xs:=by
 rcases hs.2 with ⟨h,_⟩|⟨b',c',cur,h,AT,hg,EA,zb,yC,Dd⟩
 ·cases h
 ·cases h;exact ⟨AT,EA,zb,cur,hg,yC,Dd⟩
theorem Gk (w:World) {b vb m vc o lb cb cs:Nat} {cur CN:Array Value} (fh:vb≠b) (hg:w.heap[b]?=some (.cells cur 58 (0,0))) (Ox:w.heap[vb]?=some (.cells CN 58 (0,0))) (hk:cur.size≠0) :
  (callFunc 178 #[.slice (some ⟨vb,0,none⟩) m vc,.slice (some ⟨b,o,none⟩) lb cb]).run Tryz.prog w=.ok (.value (.bool false)) w:=by
 obtain ⟨i,hi,hz,fB,Ei⟩:=gw;rw [run_callFunc_extern Tryz.func178 (by kernel_rfl) (by kernel_rfl) (by kernel_rfl) (e:=Extern.SlicesOverlaps.overlaps #[23,23] #[4]) (by kernel_rfl),
  Lib.run_overlaps_apart w 23 4 58 Tryz.underlying23 12 (λw'=>by simp [sizeOf,typeInfo,hi,fB]) ⟨vb,0,none⟩ ⟨b,o,none⟩ m vc lb cb fh 58 58 CN.size cur.size (by simp [World.shape?,Ox]) (by simp [World.shape?,hg]) hk (by simp [World.frozen?,Ox]) (by simp [World.frozen?,Ox])]
 rfl
theorem DR (w:World) {base b n c i vb m vc:Nat} {xs ys:List Value} (hs:w.ownsRow base 58 12 (.slice (some ⟨b,0,none⟩) n c) n xs) (hu:w.ownsRow base 58 12 (.slice (some ⟨vb,0,none⟩) m vc) m ys) (fh:vb≠b) (hi:i<n) (hm:0<m) (hb:n+m<=1000000000) (uG:n+m<=c)
  (DN:∀ x∈xs,x.oneCell'=true) (h1:∀ y∈ys,y.oneCell'=true) :
  Calls Tryz.prog 132 #[.slice (some ⟨b,0,none⟩) n c,.int .i64 i,.slice (some ⟨vb,0,none⟩) m vc] w λe w'=>∃ v',e=.returned v'/\ei base w (.slice (some ⟨b,0,none⟩) n c) (n+m) (xs.take (i*12)++ys++xs.drop (i*12)) v' w':=by
 have t3:=Tryz.underlying3;have t22:=Tryz.underlying23;have u3:=run_underlying Tryz.underlying3;have RE:=run_underlying Tryz.underlying23;obtain ⟨AT,EA,zb,cur,hg,yC,Dd⟩:=ju hs;obtain ⟨_,hvc,_,CN,Ox,VM,VN⟩:=ju hu;obtain ⟨inf,kV,hz,fB,Ei⟩:=gw;simp only [maxLen] at zb;have z32:∀ w,(Go.sizeOf 58).run Tryz.prog w=.ok 12 w:=λw'=>by simp [sizeOf,typeInfo,kV,fB]
 have LR:¬ ((m:Int)=0):=by omega
 have WY:¬ ((i:Int)=(n:Int)):=by omega
 have mixed:=lN;have Zo:IntKind.i64.wrap ((i:Int)+(m:Int))=(i:Int)+(m:Int):=by rw [IntKind.wrap_i64];omega
 have Js:(0:Int)<=(i:Int)+(m:Int):=by omega
 have Dj:i<=n:=by omega
 have Zp:((i:Int)+(m:Int)).toNat=i+m:=by omega
 have Lg:¬ (c=i+m):=by omega
 have Ej:(i:Int)<=(n:Int)+(m:Int):=by omega
 have Sg:¬ (c=i):=by omega
 have Oy:cur.size≠0:=by rw [yC];omega
 have wu:=hs.1;have vN:=hu.1;have hov:∀ o lb cb,(callFunc 178 #[.slice (some ⟨vb,0,none⟩) m vc,.slice (some ⟨b,o,none⟩) lb cb]).run Tryz.prog w=.ok (.value (.bool false)) w:=λo lb cb=>Gk (cs:=0) w fh hg Ox Oy
 -- the first copy
 have Bp:∀ j x,xs[j]?=some x->w.cell? ⟨b,j,none⟩=some x:=λj x hj=>by have:=hs.cells (g:=b) rfl j x hj;rwa [Addr.add_lit,zbp] at this
 have Mg:∀ j v,(xs.drop (i*12))[j]?=some v->w.cell? (Addr.add ⟨b,i*12,none⟩ j)=some v:=λj v hj=>by
  rw [zaz] at hj;rw [Addr.add_lit];exact Bp _ _ hj
 have R5:Nat.min (n+m-i) (n+m-(i+m))=n-i:=qU (by omega);have VO:Nat.min m (n+m-i)=m:=qU (by omega);have AS:(xs.drop (i*12)).length=Nat.min (n+m-i) (n+m-(i+m))*12:=by rw [zbh,wu,R5];omega
 have Gl:∀ (W:World),W.heap=w.heap->∀ ty dc sc,(Builtin.copy_ #[23,23] ty #[.slice (some ⟨b,(i+m)*12,none⟩) (n+m-(i+m)) dc,.slice (some ⟨b,i*12,none⟩) (n+m-i) sc]).run Tryz.prog W=.ok (goInt (Nat.min (n+m-i) (n+m-(i+m)))) (W.setRow b (laid cur.toList ((i+m)*12) (xs.drop (i*12))).toArray):=λW hW ty dc sc =>
  mV W Tryz.underlying23 kV fB (by rw [hW];exact hg) AS (λj v hj=>by rw [World.cell?_of_block (w:=w) (by rw [hW])];exact Mg j v hj) (λv hv=>DN v (zct hv)) (by rw [AS,yC,R5];omega)
 generalize zf:laid cur.toList ((i+m)*12) (xs.drop (i*12))=L1 at Gl;have r7:cur.toList.length=c*12:=by simpa using yC
 have oo:(i+m)*12+(xs.drop (i*12)).length<=cur.toList.length:=by rw [zbh,wu,r7];omega
 have Dx:L1.length=cur.toList.length:=by rw [←zf];exact iT oo
 have B8:∀ j v,ys[j]?=some v->w.cell? (Addr.add ⟨vb,0,none⟩ j)=some v:=λj v hj=>hu.cells (g:=vb) rfl j v hj
 have Ka:∀ (W:World),W.heap[b]?=some (.cells L1.toArray 58 (0,0))->(∀ x:Addr,x.block≠b->W.cell? x=w.cell? x)->∀ ty dc,(Builtin.copy_ #[23,23] ty #[.slice (some ⟨b,i*12,none⟩) (n+m-i) dc,.slice (some ⟨vb,0,none⟩) m vc]).run Tryz.prog W=.ok (goInt (Nat.min m (n+m-i))) (W.setRow b (laid L1 (i*12) ys).toArray):=λW Qn Qo ty dc =>
  mV W Tryz.underlying23 kV fB Qn (by rw [vN,VO]) (λj v hj=>by rw [Qo _ (by rw [Addr.add_lit];exact fh)];exact B8 j v hj) h1 (by simp only [zbq];omega)
 have Ll:((w.drew).setRow b L1.toArray).heap[b]?=some (.cells L1.toArray 58 (0,0)):=setRow_heap w.drew b cur _ 58 (0,0) hg;have ux:∀ x:Addr,x.block≠b->((w.drew).setRow b L1.toArray).cell? x=w.cell? x:=λx hx=>World.cell?_of_block (w:=w) (setRow_other w.drew b x.block _ hx)
 have oZ:ei base w (.slice (some ⟨b,0,none⟩) n c) (n+m) (xs.take (i*12)++ys++xs.drop (i*12)) (.slice (some ⟨b,0,none⟩) (n+m) c) (((w.drew).setRow b L1.toArray).setRow b (laid L1 (i*12) ys).toArray):=by
  have Bq:i*12+ys.length<=L1.length:=by rw [vN,Dx,r7];omega
  refine ⟨⟨by simp only [zai,zay,zbh];omega,.inr ⟨b,c,_,rfl,AT,setRow_heap _ b _ _ 58 (0,0) Ll,uG,by simp only [maxLen];omega,by rw [zbq,iT Bq,Dx,r7],?_⟩⟩,
   .inl ⟨rfl,by simp,⟨rfl,rfl,rfl,by simp,λk hk Iv=>?_⟩⟩⟩
  ·rw [zcp,js Bq (by rw [vN];omega),←zf];have e1:(laid cur.toList ((i+m)*12) (xs.drop (i*12))).take (i*12)=xs.take (i*12):=by
    apply zby;intro j;rw [zaj,zaj,xV oo];by_cases h:j<i*12
    ·rw [zab h,zab h,zaa (by omega),←Dd,zaj,zab (by omega)]
    ·rw [zaa h,zaa h]
   rw [e1];congr 1;rw [js oo (by rw [zbh,wu];omega),vN];apply zby;intro j;rw [zaz];have cD:(List.take ((i+m)*12) cur.toList).length=(i+m)*12:=by rw [zay,r7];omega
   by_cases h:j<(n-i)*12
   ·rw [zak (by rw [zai,cD,zbh,wu];omega),zat (by rw [cD];omega),cD];congr 1;omega
   ·rw [zbl (by simp only [zai,zbh,zay,r7,wu];omega),zbl (by rw [zbh,wu];omega)]
  ·rw [setRow_other _ b k _ (λe=>Iv (by rw [e];rfl)),setRow_other _ b k _ (λe=>Iv (by rw [e];rfl))];rfl
 have Qp:=Gl w.drew rfl;have Qq:=Ka _ Ll ux;go_enter Tryz.func132,Tryz.ntmps132
 go_wp2_with (simp only [hov])
 go_region_law_o (refine mb rfl _ _ 23 23 rfl _ _ (by simp [Act.eval,Act.put]) (by simp [Act.eval,Act.put]) (Qp _ _ _) ?_)
 go_wp2_with (at_builtin;refine jQ _ rfl _ _ 23 23 rfl _ _ rfl rfl (Qq _ _) ?_)
 go_ret;exact ⟨_,rfl,oZ⟩
theorem Fg (w:World) {base b n c i vb m vc:Nat} {xs ys:List Value} (hs:w.ownsRow base 58 12 (.slice (some ⟨b,0,none⟩) n c) n xs) (hu:w.ownsRow base 58 12 (.slice (some ⟨vb,0,none⟩) m vc) m ys) (hi:i<n) (hm:0<m) (hb:n+m<=1000000000) (uG:c<n+m) (kf:base<=w.heap.size)
  (DN:∀ x∈xs,x.oneCell'=true) (h1:∀ y∈ys,y.oneCell'=true) :
  Calls Tryz.prog 132 #[.slice (some ⟨b,0,none⟩) n c,.int .i64 i,.slice (some ⟨vb,0,none⟩) m vc] w λe w'=>∃ v',e=.returned v'/\ei base w (.slice (some ⟨b,0,none⟩) n c) (n+m) (xs.take (i*12)++ys++xs.drop (i*12)) v' w':=by
 have t3:=Tryz.underlying3;have t22:=Tryz.underlying23;have u3:=run_underlying Tryz.underlying3;have RE:=run_underlying Tryz.underlying23;obtain ⟨AT,EA,zb,cur,hg,yC,Dd⟩:=ju hs;obtain ⟨_,hvc,_,CN,Ox,VM,VN⟩:=ju hu;obtain ⟨inf,kV,hz,fB,Ei⟩:=gw;simp only [maxLen] at zb;have mixed:=lN;have LR:¬ ((m:Int)=0):=by omega
 have WY:¬ ((i:Int)=(n:Int)):=by omega
 have vn:(c:Int)<(n:Int)+(m:Int):=by omega
 have hbw:b<w.heap.size:=(hs.lt b rfl).2;have hvw:vb<w.heap.size:=(hu.lt vb rfl).2;have Yq:(n:Int)+(m:Int) - (i:Int)=((n+m-i:Nat):Int):=by omega
 have VP:i+(n+m-i)=n+m:=by omega
 have wu:=hs.1;have vN:=hu.1;have Bp:∀ j x,xs[j]?=some x->w.cell? ⟨b,j,none⟩=some x:=λj x hj=>by have:=hs.cells (g:=b) rfl j x hj;rwa [Addr.add_lit,zbp] at this
 have hold:(Builtin.firstCells inf.size i (.slice (some ⟨b,0,none⟩) i c)).run Tryz.prog w.drew=.ok (xs.take (i*12)).toArray w.drew:=by
  rw [fB];refine run_firstCells_some w.drew 12 i ⟨b,0,none⟩ i c (xs.take (i*12)) (by rw [zay];omega) (λj v hj=>?_);rw [Addr.add_lit,zbp];rw [zaj] at hj;split at hj
  ·exact Bp j v hj
  ·cases hj
 generalize hzv:(Value.agg _)=zv at hz;have Df:zv.cells.size=12:=by rw [←hzv];rfl
 have VQ:∀ ty,(Builtin.append_ #[23,3] ty #[.slice (some ⟨b,0,none⟩) i c,.int .i64 ((n:Int)+(m:Int) - (i:Int))]).run Tryz.prog w =
   .ok (.slice (some ⟨w.heap.size,0,none⟩) (n+m) (grownCap w (n+m) c 58)) (w.drew.alloc (.cells ((xs.take (i*12)).toArray++Builtin.zeroCells zv.cells (n+m-i)++Builtin.zeroCells zv.cells (grownCap w (n+m) c 58-(n+m))) 58)):=λty=>by
  have h:=Lib.run_append_grow_zeros w 23 3 ty 58 inf zv .i64 .i64 Tryz.underlying23 Tryz.underlying3 kV hz (some ⟨b,0,none⟩) i c (xs.take (i*12)) hold (n+m-i) (by omega) (by omega) (by omega) (by omega) (by rw [Ei];omega) (by rw [VP];exact growslice_fits uG (by rw [Ei];omega));rw [VP] at h;rw [Yq];exact h
 have Yr:n+m<=grownCap w (n+m) c 58:=grownCap_ge w _ _ _;have Qr:grownCap w (n+m) c 58<=maxLen:=grownCap_le_maxLen w (n+m) c 58 (by unfold maxLen;omega);generalize grownCap w (n+m) c 58=G at VQ Yr Qr;simp only [maxLen] at Qr;generalize hROW:(xs.take (i*12)).toArray++Builtin.zeroCells zv.cells (n+m-i)++Builtin.zeroCells zv.cells (G-(n+m))=vo at VQ;have Ys:vo.size=G*12:=by
  rw [←hROW];simp only [zfc,zbq,zay,size_zeroCells,Df,wu];omega
 have hRt:vo.toList.take (i*12)=xs.take (i*12):=by
  rw [←hROW];simp only [zfu,zax];rw [List.take_append_of_le_length (by rw [zay];omega),zcc (by rw [zay];omega)]
 have VR:vo.toList.length=G*12:=by simpa using Ys
 have hmA:Nat.min m (n+m-i)=m:=qU (by omega);have hmB:Nat.min (n-i) (n+m-(i+m))=n-i:=qU (by omega);have AS:(xs.drop (i*12)).length=(n-i)*12:=by rw [zbh,wu];omega
 have Kb:i*12+ys.length<=vo.toList.length:=by rw [vN,VR];omega
 have Qs:∀ (W:World),W.heap[w.heap.size]?=some (.cells vo 58 (0,0))->(∀ x:Addr,x.block<w.heap.size->W.cell? x=w.cell? x)->∀ ty dc,(Builtin.copy_ #[23,23] ty #[.slice (some ⟨w.heap.size,i*12,none⟩) (n+m-i) dc,.slice (some ⟨vb,0,none⟩) m vc]).run Tryz.prog W=.ok (goInt (Nat.min m (n+m-i))) (W.setRow w.heap.size (laid vo.toList (i*12) ys).toArray):=λW Qn Qo ty dc =>
  mV W Tryz.underlying23 kV fB Qn (by rw [vN,hmA]) (λj v hj=>by rw [Qo _ (by rw [Addr.add_lit];exact hvw)];exact hu.cells (g:=vb) rfl j v hj) h1 (by rw [vN,Ys];omega)
 generalize zf:laid vo.toList (i*12) ys=L1 at Qs;have Dx:L1.length=vo.toList.length:=by rw [←zf];exact iT Kb
 have Kc:(i+m)*12+(xs.drop (i*12)).length<=L1.length:=by rw [AS,Dx,VR];omega
 have Qt:∀ (W:World),W.heap[w.heap.size]?=some (.cells L1.toArray 58 (0,0))->(∀ x:Addr,x.block<w.heap.size->W.cell? x=w.cell? x)->∀ ty dc sc,(Builtin.copy_ #[23,23] ty #[.slice (some ⟨w.heap.size,(i+m)*12,none⟩) (n+m-(i+m)) dc,.slice (some ⟨b,i*12,none⟩) (n-i) sc]).run Tryz.prog W=.ok (goInt (Nat.min (n-i) (n+m-(i+m)))) (W.setRow w.heap.size (laid L1 ((i+m)*12) (xs.drop (i*12))).toArray):=λW Qn Qo ty dc sc =>
  mV W Tryz.underlying23 kV fB Qn (by rw [AS,hmB]) (λj v hj=>by
   rw [Qo _ (by rw [Addr.add_lit];exact hbw),Addr.add_lit];rw [zaz] at hj;exact Bp _ _ hj) (λv hv=>DN v (zct hv)) (by simp only [zbq];omega)
 generalize Ba:laid L1 ((i+m)*12) (xs.drop (i*12))=L2 at Qt;have O8:L2.length=L1.length:=by rw [←Ba];exact iT Kc
 have Br:∀ W:World,W.heap=w.heap.push (.cells vo 58 (0,0))->W.heap[w.heap.size]?=some (.cells vo 58 (0,0)):=λW hW=>by rw [hW];simp
 have VS:∀ W:World,W.heap=w.heap.push (.cells vo 58 (0,0))->∀ x:Addr,x.block<w.heap.size->W.cell? x=w.cell? x:=λW hW x hx=>World.cell?_of_block (w:=w) (by rw [hW,zdd hx];simp [hx]);have Yt:∀ W:World,W.heap=w.heap.push (.cells vo 58 (0,0))->(W.setRow w.heap.size L1.toArray).heap[w.heap.size]?=some (.cells L1.toArray 58 (0,0)):=λW hW=>setRow_heap W _ vo _ 58 (0,0) (Br W hW)
 have Rz:∀ W:World,W.heap=w.heap.push (.cells vo 58 (0,0))->∀ x:Addr,x.block<w.heap.size->(W.setRow w.heap.size L1.toArray).cell? x=w.cell? x:=λW hW x hx=>(World.cell?_of_block (w:=W) (setRow_other W _ x.block _ (by omega))).trans (VS W hW x hx)
 have oZ:∀ W W2:World,W.heap=w.heap.push (.cells vo 58 (0,0))->W.os=w.os->W.tape=w.tape->W.output=w.output->W2.heap=(W.setRow w.heap.size L1.toArray).heap->W2.os=w.os->W2.tape=w.tape->W2.output=w.output ->
   ei base w (.slice (some ⟨b,0,none⟩) n c) (n+m) (xs.take (i*12)++ys++xs.drop (i*12)) (.slice (some ⟨w.heap.size,0,none⟩) (n+m) G) (W2.setRow w.heap.size L2.toArray):=by
  intro W W2 hW ho ht hou VT NT B9 VU;have VV:W2.heap[w.heap.size]?=some (.cells L1.toArray 58 (0,0)):=by rw [VT];exact Yt W hW
  refine ⟨⟨by simp only [zai,zay,zbh];omega,.inr ⟨w.heap.size,G,_,rfl,kf,setRow_heap _ _ _ _ 58 (0,0) VV,Yr,by simp only [maxLen];omega,by rw [zbq,O8,Dx,VR],?_⟩⟩,
   .inr ⟨rfl,⟨NT,B9,VU,by simp [VT,hW],λk hk=>?_⟩⟩⟩
  ·have e2:(L1.take ((n+m)*12)).drop ((i+m)*12+(xs.drop (i*12)).length)=[]:=zci (by rw [zay,AS];omega);rw [zcp,←Ba,js Kc (by rw [AS];omega),e2,←zf];have e1:(laid vo.toList (i*12) ys).take ((i+m)*12)=xs.take (i*12)++ys:=by
    rw [js Kb (by rw [vN];omega),hRt,vN,zci (by rw [zay];omega),zcg]
   rw [e1,zcg]
  ·rw [setRow_other _ _ k _ (by omega),VT,setRow_other _ _ k _ (by omega),hW,zdd hk];simp [hk]
 clear Yq VP hold hROW;have hGi:¬ (G=i):=by omega
 have hGim:¬ (G=i+m):=by omega
 have qQ:¬ (c=i):=by omega
 have Zo:IntKind.i64.wrap ((i:Int)+(m:Int))=(i:Int)+(m:Int):=by rw [IntKind.wrap_i64];omega
 have Js:(0:Int)<=(i:Int)+(m:Int):=by omega
 have Dj:i<=n:=by omega
 have Zp:((i:Int)+(m:Int)).toNat=i+m:=by omega
 have Ej:(i:Int)<=(n:Int):=by omega
 have Qu:=Qs (w.alloc (.cells vo 58)).drew (Br _ rfl) (VS _ rfl);have Qv:=Qt ((w.alloc (.cells vo 58)).drew.setRow w.heap.size L1.toArray).drew (Yt _ rfl) (Rz (w.alloc (.cells vo 58)).drew rfl);have Qw:=oZ (w.alloc (.cells vo 58)).drew ((w.alloc (.cells vo 58)).drew.setRow w.heap.size L1.toArray).drew rfl rfl rfl rfl rfl rfl rfl rfl;go_enter Tryz.func132,Tryz.ntmps132
 go_wp2_with (first
  | (at_builtin;refine Lib.wpList_append_run _ rfl _ _ _ _ rfl _ _ rfl rfl _ _ (VQ _) ?_)
  | (at_builtin;refine jQ _ rfl _ _ 23 23 rfl _ _ rfl rfl (Qu _ _) ?_))
 go_region_law_o (refine mb rfl _ _ 23 23 rfl _ _ (by simp [Act.eval,Act.put]) (by simp [Act.eval,Act.put]) (Qv _ _ _) ?_)
 go_wp2
 go_ret;exact ⟨_,rfl,Qw⟩
theorem Gm (w:World) {base m:Nat} {A:Option Addr} {u:Value} {ys:List Value} (hu:w.ownsRow base 58 12 u m ys) (hm:0<m) (hb:m<=1000000000) (kf:base<=w.heap.size) (h1:∀ y∈ys,y.oneCell'=true) :
  Calls Tryz.prog 132 #[.slice A 0 0,.int .i64 0,u] w λe w'=>∃ v',e=.returned v'/\ei base w (.slice none 0 0) m ys v' w':=by
 have t3:=Tryz.underlying3;have t22:=Tryz.underlying23;have u3:=run_underlying Tryz.underlying3;have RE:=run_underlying Tryz.underlying23;have LR:¬ ((m:Int)=0):=by omega
 obtain ⟨i,hi,hz,fB,Ei⟩:=gw;have hs:=World.ownsRow_nil w base 58 12;obtain ⟨v',w',hC,j5,_,hc⟩:=kR (P:=Tryz.prog) (ty:=23) w Tryz.underlying23 Tryz.underlying23 (.inr ⟨_,rfl⟩) hi hz fB (by rfl) hs (vm hu h1) (by simp only [maxLen];omega) (by rw [Ei];omega) kf;rw [zbp,zbz] at j5;have Kd:=((wB (ty:=23) Tryz.underlying23 Tryz.underlying23 (.inr ⟨_,rfl⟩) hi hz fB (vm hu h1) (by omega) (by rw [Ei];omega) A).2 (by omega)).trans hC;rcases hu.2 with ⟨_,h0⟩|⟨vb,vc,CN,rfl,_⟩
 ·omega
 cases A with
 | none =>
  go_enter Tryz.func132,Tryz.ntmps132
  go_wp2_with (at_builtin;refine Lib.wpList_append_run _ rfl _ _ _ _ rfl _ _ rfl rfl _ _ Kd ?_)
  all_goals (go_ret;exact ⟨_,rfl,j5,hc⟩)
 | some A =>
  obtain ⟨ab,ao,asp⟩:=A;go_enter Tryz.func132,Tryz.ntmps132
  go_wp2_with (at_builtin;refine Lib.wpList_append_run _ rfl _ _ _ _ rfl _ _ rfl rfl _ _ Kd ?_)
  all_goals (go_ret;exact ⟨_,rfl,j5,hc⟩)
theorem DS (w:World) {base n m i:Nat} {v u:Value} {xs ys:List Value} (hs:w.ownsRow base 58 12 v n xs) (hu:w.ownsRow base 58 12 u m ys) (fh:∀ b,v.ownBlock=some b->u.ownBlock≠some b) (hi:i<=n) (hm:0<m) (hb:n+m<=1000000000) (kf:base<=w.heap.size)
  (DN:∀ x∈xs,x.oneCell'=true) (h1:∀ y∈ys,y.oneCell'=true) :
  Calls Tryz.prog 132 #[v,.int .i64 i,u] w λe w'=>∃ v',e=.returned v'/\ei base w v (n+m) (xs.take (i*12)++ys++xs.drop (i*12)) v' w':=by
 by_cases Dj:i=n
 ·subst Dj;have wu:=hs.1;rw [zcc (by omega),zci (by omega),zcg];exact Gj w hs hu hm hb kf h1
 ·obtain ⟨b,c,rfl⟩:=(iS hs).2 (by omega);obtain ⟨vb,vc,rfl⟩:=(iS hu).2 (by omega);by_cases hr:n+m<=c
  ·exact DR w hs hu (λe=>fh b rfl (by rw [e];rfl)) (by omega) hm hb hr DN h1
  ·exact Fg w hs hu (by omega) hm hb (by omega) kf DN h1
theorem CO {l l' r:List aa} {n0 n1:Nat} {i:Int} (H:xY i l l'=some r) :
  aK Tryz.prog 132 [.vc 0 n0,.d (cI i),.vc 1 n1] ⟨[],[⟨58,12,n0,some (l.map aa.row)⟩,⟨58,12,n1,some (l'.map aa.row)⟩]⟩
   (QE (.vc 2 r.length) ⟨[],[⟨58,12,([]:List aa).length,none⟩,⟨58,12,n1,some (l'.map aa.row)⟩,⟨58,12,r.length,some (r.map aa.row)⟩]⟩):=by
 obtain ⟨hk,H⟩:=ar H;cases H;intro g w base vs hinv ha;obtain ⟨x,y,z,rfl,e1,e2,e3⟩:=P6 rfl ha;obtain ⟨k0,k1,k2,k3⟩:=hk;have Lj:y=.int .i64 i:=e2.bJ;subst Lj;obtain ⟨xs,s1,s2,s3⟩:=hinv.own 0 _ _ _ _ rfl;obtain ⟨ys,u1,u2,u3⟩:=hinv.own 1 _ _ _ _ rfl;have Lh:n0=l.length:=by have:=s3.len;simpa using this.symm
 have hn1:n1=l'.length:=by have:=u3.len;simpa using this.symm
 have hz:z=g.tk 1:=by
  rcases sI hinv rfl e3 with h|⟨_,h,_⟩
  ·exact h
  ·have:l'=[]:=by simpa using h
   rw [this] at k2;simp at k2
 subst hz;obtain ⟨j,rfl⟩:∃ j:Nat,i=(j:Int):=⟨i.toNat,by omega⟩;have rm:=s3.UU s1.1 u3 u1.1 (i:=j) (j:=j) (zam _) (by omega);have jv:(l.map aa.row).take j++l'.map aa.row++(l.map aa.row).drop j=(l.take j++l'++l.drop j).map aa.row:=by simp [List.map_take,List.map_drop]
 rw [jv,show j+n1+(n0-j)=n0+n1 from by omega] at rm;have hlen:(l.take j++l'++l.drop j).length=n0+n1:=by simp;omega
 have DN:=s3.one s1.1;have Yu:=u3.one u1.1;have fin:∀ v0:Value,(v0.ownBlock=(g.tk 0).ownBlock∨v0.ownBlock=none/\0<n0+n1)->∀ e w',(∃ v',e=.returned v'/\ei base w v0 (n0+n1) (xs.take (j*12)++ys++xs.drop (j*12)) v' w') ->
   nt ⟨g,w,⟨[],[⟨58,12,n0,some (l.map aa.row)⟩,⟨58,12,n1,some (l'.map aa.row)⟩]⟩,base⟩ (QE (.vc 2 (l.take (j:Int).toNat++l'++l.drop (j:Int).toNat).length) ⟨[],[⟨58,12,([]:List aa).length,none⟩,⟨58,12,n1,some (l'.map aa.row)⟩,⟨58,12,(l.take (j:Int).toNat++l'++l.drop (j:Int).toNat).length,some ((l.take (j:Int).toNat++l'++l.drop (j:Int).toNat).map aa.row)⟩]⟩) e w':=by
  rintro v0 LD e w' ⟨v',rfl,ho,hc⟩;rw [zch,hlen];refine wO hinv (tk:=0) rfl rfl ho ?_ rm;rcases hc with ⟨c1,c2,c3⟩|hc
  ·rcases LD with LD|⟨LD,hp⟩
   ·rw [LD] at c1 c3;exact .inl ⟨c1,c2,c3⟩
   ·rw [LD] at c1;obtain ⟨b,c,ML⟩:=(iS ho).2 (by omega);rw [ML] at c1;cases c1
  ·exact .inr hc
 rcases sI hinv rfl e1 with hx|⟨h0,UX,A,hx⟩
 ·subst hx;refine (DS w s1 u1 (λb h1 h2=>hinv.nF 0 1 _ _ b (by decide) rfl rfl h1 h2) (i:=j) (by omega) (by omega) (by omega) hinv.base DN Yu).mono ?_;exact fin _ (.inl rfl)
 ·subst hx;have hj:j=0:=by omega
  subst hj;have RR:xs=[]:=zaw (by rw [s1.1,h0,zfo]);subst RR;refine (Gm w (A:=A) u1 (by omega) (by omega) hinv.base Yu).mono λe w' hh=>fin (.slice none 0 0) (.inr ⟨rfl,by omega⟩) e w' ?_
  rw [h0,zbp];simpa using hh
theorem Gn (w:World) {base b n c i m uc:Nat} {A:Option Addr} {xs ys:List Value} (hs:w.ownsRow base 58 12 (.slice (some ⟨b,0,none⟩) n c) n xs) (hu:Go.Abs.Src Tryz.prog w 12 (.slice A m uc) m ys) (hi:i<n) (hm:m<=n-i) (hb:n<=1000000000) :
  Calls Tryz.prog 182 #[.slice (some ⟨b,0,none⟩) n c,.int .i64 i,.int .i64 n,.slice A m uc] w λe w'=>∃ v',e=.returned v'/\ei base w (.slice (some ⟨b,0,none⟩) n c) (i+m) (xs.take (i*12)++ys) v' w':=by
 have t3:=Tryz.underlying3;have t22:=Tryz.underlying23;have u3:=run_underlying Tryz.underlying3;have RE:=run_underlying Tryz.underlying23;obtain ⟨AT,EA,zb,cur,hg,yC,Dd⟩:=ju hs;obtain ⟨inf,kV,hz,fB,Ei⟩:=gw;simp only [maxLen] at zb;generalize hzv:(Value.agg _)=zv at hz;have Df:zv.cells.size=12:=by rw [←hzv];rfl
 have LR:∀ v∈(Builtin.zeroCells zv.cells (n-(i+m))).toList,v.oneCell'=true:=va (by rw [Df,←hzv];decide);have WY:¬ ((i:Int)=(n:Int)):=by omega
 have wu:=hs.1;have vN:=hu.size;have r7:cur.toList.length=c*12:=by simpa using yC
 have oo:i*12+ys.length<=cur.toList.length:=by rw [vN,r7];omega
 have hC:∀ ty,(Builtin.append_ #[23,23] ty #[.slice (some ⟨b,0,none⟩) i c,.slice A m uc]).run Tryz.prog w=.ok (.slice (some ⟨b,0,none⟩) (i+m) c) (w.setRow b (laid cur.toList (i*12) ys).toArray):=λty =>
  Dq w Tryz.underlying23 kV fB hg (by omega) (hu.cells w rfl) hu.one (by rw [←zcm];exact oo)
 generalize zf:laid cur.toList (i*12) ys=L1 at hC;have Dx:L1.length=cur.toList.length:=by rw [←zf];exact iT oo
 have Ll:(w.setRow b L1.toArray).heap[b]?=some (.cells L1.toArray 58 (0,0)):=setRow_heap w b cur _ 58 (0,0) hg;have W4:L1.take ((i+m)*12)=xs.take (i*12)++ys:=by
  have e1:(cur.toList.take ((i+m)*12)).drop (i*12+ys.length)=[]:=zci (by rw [zay,vN];omega);rw [←zf,js oo (by rw [vN];omega),e1,zcg,←Dd,zez,show min (i*12) (n*12)=i*12 from by omega]
 have hlen:(xs.take (i*12)++ys).length=(i+m)*12:=by simp only [zai,zay];omega
 have Dj:i<=n:=by omega
 have U0:(0:Int)<=(i:Int):=by omega
 have qQ:¬ (c=i):=by omega
 by_cases R5:i+m=n
 ·have cZ:¬ ((i:Int)+(m:Int)<(n:Int)):=by omega
  have hlt2:¬ (i+m<n):=by omega
  have hlt3:¬ (((i+m:Nat):Int)<(n:Int)):=by omega
  have oZ:ei base w (.slice (some ⟨b,0,none⟩) n c) (i+m) (xs.take (i*12)++ys) (.slice (some ⟨b,0,none⟩) (i+m) c) (w.setRow b L1.toArray) :=
   ⟨⟨hlen,.inr ⟨b,c,_,rfl,AT,Ll,by omega,by simp only [maxLen];omega,by rw [zbq,Dx,r7],by rw [zcp,W4]⟩⟩,.inl ⟨rfl,by simp,⟨rfl,rfl,rfl,by simp,λk hk Iv=>setRow_other _ b k _ (λe=>Iv (by rw [e];rfl))⟩⟩⟩
  rw [R5] at oZ;go_enter Tryz.func182,Tryz.ntmps182
  go_wp2_with (at_builtin;refine Lib.wpList_append_run _ rfl _ _ _ _ rfl _ _ rfl rfl _ _ (hC _) ?_)
  all_goals (go_ret;exact ⟨_,rfl,oZ⟩)
 ·have cZ:(i:Int)+(m:Int)<(n:Int):=by omega
  have hlt2:i+m<n:=by omega
  have Dy:(i+m)*12+(Builtin.zeroCells zv.cells (n-(i+m))).toList.length<=L1.length:=by rw [zcm,size_zeroCells,Df,Dx,r7];omega
  have DT:∀ ty dc,(Builtin.clear_ #[23] ty #[.slice (some ⟨b,(i+m)*12,none⟩) (n-(i+m)) dc]).run Tryz.prog (w.setRow b L1.toArray)=.ok (.tuple #[]) ((w.setRow b L1.toArray).setRow b (laid L1 ((i+m)*12) (Builtin.zeroCells zv.cells (n-(i+m))).toList).toArray):=λty dc=>by
   have:=An (P:=Tryz.prog) (ty:=ty) (c:=dc) (w.setRow b L1.toArray) (o:=(i+m)*12) (n:=n-(i+m)) Tryz.underlying23 kV hz Df Ll (by omega) (by rw [zbq,Dx,r7];omega) LR;exact this
  generalize Ba:laid L1 ((i+m)*12) (Builtin.zeroCells zv.cells (n-(i+m))).toList=L2 at DT;have O8:L2.length=L1.length:=by rw [←Ba];exact iT Dy
  have W5:L2.take ((i+m)*12)=xs.take (i*12)++ys:=by rw [←Ba,Ao Dy (zam _),W4]
  have Yv:¬ (c=i+m):=by omega
  have hle:i+m<=n:=by omega
  have oZ:ei base w (.slice (some ⟨b,0,none⟩) n c) (i+m) (xs.take (i*12)++ys) (.slice (some ⟨b,0,none⟩) (i+m) c) ((w.setRow b L1.toArray).setRow b L2.toArray) :=
   ⟨⟨hlen,.inr ⟨b,c,_,rfl,AT,setRow_heap _ b _ _ 58 (0,0) Ll,by omega,by simp only [maxLen];omega,by rw [zbq,O8,Dx,r7],by rw [zcp,W5]⟩⟩,
    .inl ⟨rfl,by simp,⟨rfl,rfl,rfl,by simp,λk hk Iv=>by rw [setRow_other _ b k _ (λe=>Iv (by rw [e];rfl)),setRow_other _ b k _ (λe=>Iv (by rw [e];rfl))]⟩⟩⟩
  go_enter Tryz.func182,Tryz.ntmps182
  go_wp2_with (first
   | (at_builtin;refine Lib.wpList_append_run _ rfl _ _ _ _ rfl _ _ rfl rfl _ _ (hC _) ?_)
   | (at_builtin;refine km _ rfl _ 23 rfl _ rfl (DT _ _) ?_))
  all_goals (go_ret;exact ⟨_,rfl,oZ⟩)
theorem Gp (w:World) {base b n c i j m uc:Nat} {A:Option Addr} {xs ys:List Value} (hs:w.ownsRow base 58 12 (.slice (some ⟨b,0,none⟩) n c) n xs) (hu:Go.Abs.Src Tryz.prog w 12 (.slice A m uc) m ys) (hi:i<j) (hj:j<n) (hm:m<=j-i) (hb:n<=1000000000) (DN:∀ x∈xs,x.oneCell'=true) :
  Calls Tryz.prog 182 #[.slice (some ⟨b,0,none⟩) n c,.int .i64 i,.int .i64 j,.slice A m uc] w λe w'=>∃ v',e=.returned v'/\ei base w (.slice (some ⟨b,0,none⟩) n c) (i+m+(n-j)) (xs.take (i*12)++ys++xs.drop (j*12)) v' w':=by
 have t3:=Tryz.underlying3;have t22:=Tryz.underlying23;have u3:=run_underlying Tryz.underlying3;have RE:=run_underlying Tryz.underlying23;obtain ⟨AT,EA,zb,cur,hg,yC,Dd⟩:=ju hs;obtain ⟨inf,kV,hz,fB,Ei⟩:=gw;simp only [maxLen] at zb;have mixed:=lN;generalize hzv:(Value.agg _)=zv at hz;have Df:zv.cells.size=12:=by rw [←hzv];rfl
 have wu:=hs.1;have vN:=hu.size;have r7:cur.toList.length=c*12:=by simpa using yC
 obtain ⟨T,hT⟩:∃ T,i+m+(n-j)=T:=⟨_,rfl⟩;have hTi:(i:Int)+(m:Int)+((n-j:Nat):Int)=(T:Int):=by omega
 have hTn:T<=n:=by omega
 have LR:∀ v∈(Builtin.zeroCells zv.cells (n-T)).toList,v.oneCell'=true:=va (by rw [Df,←hzv];decide);have hne1:¬ ((i:Int)=(j:Int)):=by omega
 have hne2:¬ ((j:Int)=(n:Int)):=by omega
 have Zo:IntKind.i64.wrap ((i:Int)+(m:Int))=(i:Int)+(m:Int):=by rw [IntKind.wrap_i64];omega
 have hw2:IntKind.i64.wrap ((i:Int)+(m:Int)+((n-j:Nat):Int))=(T:Int):=by rw [IntKind.wrap_i64];omega
 have htc:¬ ((c:Int)<(T:Int)):=by omega
 have Js:(0:Int)<=(i:Int)+(m:Int):=by omega
 have Zp:((i:Int)+(m:Int)).toNat=i+m:=by omega
 have hle1:(i:Int)+(m:Int)<=(j:Int):=by omega
 have UY:(i:Int)+(m:Int)<=(T:Int):=by omega
 have hTc:T<=c:=by omega
 have Dj:i<=n:=by omega
 have XW:i<=c:=by omega
 have hiT:i<=T:=by omega
 have hjn:j<=n:=by omega
 have N0:i<=j:=by omega
 have qQ:¬ (c=i):=by omega
 have VW:¬ (c=j):=by omega
 have Yv:¬ (c=i+m):=by omega
 -- the first copy
 have oo:i*12+ys.length<=cur.toList.length:=by rw [vN,r7];omega
 have Gl:∀ ty dc,(Builtin.copy_ #[23,23] ty #[.slice (some ⟨b,i*12,none⟩) (T-i) dc,.slice A m uc]).run Tryz.prog w.drew=.ok (goInt m) (w.drew.setRow b (laid cur.toList (i*12) ys).toArray):=λty dc =>
  Ol w.drew Tryz.underlying23 kV fB hg (by omega) (hu.cells _ rfl) hu.one (by rw [←zcm];exact oo)
 generalize zf:laid cur.toList (i*12) ys=L1 at Gl;have Dx:L1.length=cur.toList.length:=by rw [←zf];exact iT oo
 have Ll:(w.drew.setRow b L1.toArray).heap[b]?=some (.cells L1.toArray 58 (0,0)):=setRow_heap w.drew b cur _ 58 (0,0) hg
 -- the second one
 have AS:(xs.drop (j*12)).length=(n-j)*12:=by rw [zbh,wu];omega
 have fc:∀ k v,(xs.drop (j*12))[k]?=some v->(w.drew.setRow b L1.toArray).drew.cell? (Addr.add ⟨b,j*12,none⟩ k)=some v:=λk v hk=>by
  have hkl:=(zad.1 hk).1;rw [zaz] at hk;rw [Addr.add_lit];have:(w.drew.setRow b L1.toArray).drew.cell? ⟨b,j*12+k,none⟩=L1[j*12+k]?:=by
   have:=cell_of_row (w.drew.setRow b L1.toArray) b (j*12+k) L1.toArray 58 (0,0) Ll;simpa using this
  rw [this,←zf,xV oo,zaa (by rw [vN];omega),←hk,←Dd,zaj,zab (by omega)]
 have hmnB:Nat.min (n-j) (T-(i+m))=n-j:=qU (by omega);have Bq:(i+m)*12+(xs.drop (j*12)).length<=L1.length:=by rw [AS,Dx,r7];omega
 have Ka:∀ ty dc sc,(Builtin.copy_ #[23,23] ty #[.slice (some ⟨b,(i+m)*12,none⟩) (T-(i+m)) dc,.slice (some ⟨b,j*12,none⟩) (n-j) sc]).run Tryz.prog (w.drew.setRow b L1.toArray).drew=.ok (goInt (Nat.min (n-j) (T-(i+m)))) ((w.drew.setRow b L1.toArray).drew.setRow b (laid L1 ((i+m)*12) (xs.drop (j*12))).toArray):=λty dc sc =>
  mV (w.drew.setRow b L1.toArray).drew Tryz.underlying23 kV fB Ll (by rw [AS,hmnB]) fc (λv hv=>DN v (zct hv)) (by rw [←zcm];exact Bq)
 generalize Ba:laid L1 ((i+m)*12) (xs.drop (j*12))=L2 at Ka;have O8:L2.length=L1.length:=by rw [←Ba];exact iT Bq
 have VV:((w.drew.setRow b L1.toArray).drew.setRow b L2.toArray).heap[b]?=some (.cells L2.toArray 58 (0,0)):=setRow_heap (w.drew.setRow b L1.toArray).drew b _ _ 58 (0,0) Ll;have W4:L1.take ((i+m)*12)=xs.take (i*12)++ys:=by
  have e1:(cur.toList.take ((i+m)*12)).drop (i*12+ys.length)=[]:=zci (by rw [zay,vN];omega);rw [←zf,js oo (by rw [vN];omega),e1,zcg,←Dd,zez,show min (i*12) (n*12)=i*12 from by omega]
 have W5:L2.take (T*12)=xs.take (i*12)++ys++xs.drop (j*12):=by
  have e1:(L1.take (T*12)).drop ((i+m)*12+(xs.drop (j*12)).length)=[]:=zci (by rw [zay,AS];omega);rw [←Ba,js Bq (by rw [AS];omega),e1,zcg,W4]
 have hlen:(xs.take (i*12)++ys++xs.drop (j*12)).length=T*12:=by simp only [zai,zay,zbh];omega
 rw [hT];have ME:∀ k,k<w.heap.size->some k≠Value.ownBlock (.slice (some ⟨b,0,none⟩) n c)->((w.drew.setRow b L1.toArray).drew.setRow b L2.toArray).heap[k]?=w.heap[k]?:=λk hk Iv=>by
  rw [setRow_other _ b k _ (λe=>Iv (by rw [e];rfl))];show (w.drew.setRow b L1.toArray).heap[k]?=_;rw [setRow_other _ b k _ (λe=>Iv (by rw [e];rfl))];rfl
 by_cases hTe:T=n
 ·have oZ:ei base w (.slice (some ⟨b,0,none⟩) n c) T (xs.take (i*12)++ys++xs.drop (j*12)) (.slice (some ⟨b,0,none⟩) T c) ((w.drew.setRow b L1.toArray).drew.setRow b L2.toArray) :=
   ⟨⟨hlen,.inr ⟨b,c,_,rfl,AT,VV,hTc,by simp only [maxLen];omega,by rw [zbq,O8,Dx,r7],by rw [zcp,W5]⟩⟩,.inl ⟨rfl,by simp,⟨rfl,rfl,rfl,by simp,ME⟩⟩⟩
  have DT:∀ (W:World) (A:Option Addr) ty dc,(Builtin.clear_ #[23] ty #[.slice A 0 dc]).run Tryz.prog W=.ok (.tuple #[]) W:=λW A ty dc=>EZ W Tryz.underlying23
  have WV:n-T=0:=by omega
  clear hTe;rw [zax] at oZ ⊢;rcases Decidable.em (c=T) with hcT|hcT
  ·subst hcT;go_enter Tryz.func182,Tryz.ntmps182
   go_wp2
   go_region
   go_wp2_with (at_builtin;refine jQ _ rfl _ _ 23 23 rfl _ _ rfl rfl (Gl _ _) ?_)
   go_region_law_o (refine mb rfl _ _ 23 23 rfl _ _ (by simp [Act.eval,Act.put]) (by simp [Act.eval,Act.put]) (Ka _ _ _) ?_)
   go_wp2_with (at_builtin;refine km _ rfl _ 23 rfl _ rfl (DT _ _ _ _) ?_)
   all_goals (go_ret;exact ⟨_,rfl,oZ⟩)
  ·go_enter Tryz.func182,Tryz.ntmps182
   go_wp2
   go_region
   go_wp2_with (at_builtin;refine jQ _ rfl _ _ 23 23 rfl _ _ rfl rfl (Gl _ _) ?_)
   go_region_law_o (refine mb rfl _ _ 23 23 rfl _ _ (by simp [Act.eval,Act.put]) (by simp [Act.eval,Act.put]) (Ka _ _ _) ?_)
   go_wp2_with (at_builtin;refine km _ rfl _ 23 rfl _ rfl (DT _ _ _ _) ?_)
   all_goals (go_ret;exact ⟨_,rfl,oZ⟩)
 ·have Dy:T*12+(Builtin.zeroCells zv.cells (n-T)).toList.length<=L2.length:=by rw [zcm,size_zeroCells,Df,O8,Dx,r7];omega
  have DT:∀ ty dc,(Builtin.clear_ #[23] ty #[.slice (some ⟨b,T*12,none⟩) (n-T) dc]).run Tryz.prog ((w.drew.setRow b L1.toArray).drew.setRow b L2.toArray)=.ok (.tuple #[]) (((w.drew.setRow b L1.toArray).drew.setRow b L2.toArray).setRow b (laid L2 (T*12) (Builtin.zeroCells zv.cells (n-T)).toList).toArray):=λty dc=>by
   have:=An (P:=Tryz.prog) (ty:=ty) (c:=dc) ((w.drew.setRow b L1.toArray).drew.setRow b L2.toArray) (o:=T*12) (n:=n-T) Tryz.underlying23 kV hz Df VV (by omega) (by rw [zbq,O8,Dx,r7];omega) LR;exact this
  generalize hl3:laid L2 (T*12) (Builtin.zeroCells zv.cells (n-T)).toList=L3 at DT;have hL3:L3.length=L2.length:=by rw [←hl3];exact iT Dy
  have hT3:L3.take (T*12)=xs.take (i*12)++ys++xs.drop (j*12):=by rw [←hl3,Ao Dy (zam _),W5]
  have hcT:¬ (c=T):=by omega
  have oZ:ei base w (.slice (some ⟨b,0,none⟩) n c) T (xs.take (i*12)++ys++xs.drop (j*12)) (.slice (some ⟨b,0,none⟩) T c) (((w.drew.setRow b L1.toArray).drew.setRow b L2.toArray).setRow b L3.toArray) :=
   ⟨⟨hlen,.inr ⟨b,c,_,rfl,AT,setRow_heap _ b _ _ 58 (0,0) VV,hTc,by simp only [maxLen];omega,by rw [zbq,hL3,O8,Dx,r7],by rw [zcp,hT3]⟩⟩,.inl ⟨rfl,by simp,⟨rfl,rfl,rfl,by simp,λk hk Iv=>by rw [setRow_other _ b k _ (λe=>Iv (by rw [e];rfl))];exact ME k hk Iv⟩⟩⟩
  rw [zax] at oZ ⊢;go_enter Tryz.func182,Tryz.ntmps182
  go_wp2
  go_region
  go_wp2_with (at_builtin;refine jQ _ rfl _ _ 23 23 rfl _ _ rfl rfl (Gl _ _) ?_)
  go_region_law_o (refine mb rfl _ _ 23 23 rfl _ _ (by simp [Act.eval,Act.put]) (by simp [Act.eval,Act.put]) (Ka _ _ _) ?_)
  go_wp2_with (at_builtin;refine km _ rfl _ 23 rfl _ rfl (DT _ _) ?_)
  all_goals (go_ret;exact ⟨_,rfl,oZ⟩)
theorem Bs {l l' r:List aa} {n0:Nat} {i j:Int} (H:xk i j l' l=some r) :
  aK Tryz.prog 182 [.vc 0 n0,.d (cI i),.d (cI j),.d (ag 12 aa.row l')] ⟨[],[⟨58,12,n0,some (l.map aa.row)⟩]⟩
   (QE (.vc 1 r.length) ⟨[],[⟨58,12,([]:List aa).length,none⟩,⟨58,12,r.length,some (r.map aa.row)⟩]⟩):=by
 obtain ⟨hk,H⟩:=ar H;cases H;intro g w base vs hinv ha;obtain ⟨x,y,z,u,rfl,e1,e2,e3,e4⟩:=X1 rfl ha;obtain ⟨k0,k1,k2,k3,k4⟩:=hk;have Lj:y=.int .i64 i:=e2.bJ;have e3':z=.int .i64 j:=e3.bJ;subst Lj;subst e3';obtain ⟨xs,s1,s2,s3⟩:=hinv.own 0 _ _ _ _ rfl;have Lh:n0=l.length:=by have:=s3.len;simpa using this.symm
 have e4':dK g.lim w (.sl 12 (l'.map aa.row)) u:=by cases e4 with|d _ _ h=>exact h
 obtain ⟨ys,tD⟩:=tg (P:=Tryz.prog) e4';obtain ⟨A,uc,hu⟩:=Ea e4';have Gb:=tD.src;rw [zdy] at hu Gb;subst hu;have hx:x=g.tk 0:=by
  rcases sI hinv rfl e1 with h|⟨_,h,_⟩
  ·exact h
  ·have:l=[]:=by simpa using h
   rw [this] at k2;simp at k2;omega
 subst hx;obtain ⟨i',rfl⟩:∃ q:Nat,i=(q:Int):=⟨i.toNat,by omega⟩;obtain ⟨j',rfl⟩:∃ q:Nat,j=(q:Int):=⟨j.toNat,by omega⟩;have Zq:dt g.lim w 12 l'.length (l'.map aa.row) ys:=⟨by simp,tD.rows,λq c v hc hv=>tD.rep q v c hv hc⟩;have rm:=s3.UU s1.1 Zq Gb.size (i:=i') (j:=j') (by omega) (by omega);have jv:(l.map aa.row).take i'++l'.map aa.row++(l.map aa.row).drop j'=(l.take i'++l'++l.drop j').map aa.row:=by simp [List.map_take,List.map_drop]
 rw [jv] at rm;have hlen:(l.take i'++l'++l.drop j').length=i'+l'.length+(n0-j'):=by simp;omega
 obtain ⟨b,c,hv⟩:=(iS s1).2 (by omega);have DN:=s3.one s1.1;have fin:∀ e w',(∃ v',e=.returned v'/\ei base w (g.tk 0) (i'+l'.length+(n0-j')) (xs.take (i'*12)++ys++xs.drop (j'*12)) v' w') ->
   nt ⟨g,w,⟨[],[⟨58,12,n0,some (l.map aa.row)⟩]⟩,base⟩ (QE (.vc 1 (l.take (i':Int).toNat++l'++l.drop (j':Int).toNat).length) ⟨[],[⟨58,12,([]:List aa).length,none⟩,⟨58,12,(l.take (i':Int).toNat++l'++l.drop (j':Int).toNat).length,some ((l.take (i':Int).toNat++l'++l.drop (j':Int).toNat).map aa.row)⟩]⟩) e w':=by
  rintro e w' ⟨v',rfl,ho,hc⟩;rw [zch,zch,hlen];exact wO hinv (tk:=0) rfl rfl ho hc rm
 refine Calls.mono ?_ fin;have Si:=s1;rw [hv] at Si ⊢;by_cases hjn:j'=n0
 ·subst hjn;have:=Gn w Si Gb (i:=i') (by omega) (by omega) (by omega);rw [Nat.sub_self,zdb,zci (by rw [s1.1];exact zam _),zcg];exact this
 ·exact Gp w Si Gb (by omega) (by omega) (by omega) (by omega) DN
theorem np {l r:List aa} (H:dX l=some r):aK Tryz.prog 48 [.d (ag 12 aa.row l)] ⟨[],[]⟩ (QE (.vc 0 r.length) ⟨[],[⟨58,12,r.length,some (r.map aa.row)⟩]⟩):=by
 obtain ⟨hk,H⟩:=ar H;cases H;obtain ⟨i32,Bt,Iw,Bu,Ix⟩:=gw;refine aK.jP ?_;refine aK.enter Tryz.func48 rfl Tryz.ntmps48 rfl λS hS=>?_
 refine .F 8 rfl (.J0 Tryz.underlying23 rfl rfl λb hb=>?_);refine .E 1 rfl (.cond rfl (λhc=>?_) (λhc=>?_))
 ·have hl:l=[]:=by simpa using hb hc
  subst hl;refine .E 4 rfl (.N7 (i:=2) (e:=58) (sz:=12) rfl (.R Tryz.func48 Tryz.results48 rfl ?_));exact ⟨[],[0],rfl,rfl,rfl,rfl,rfl,rfl,rfl,rfl,.aj _⟩
 ·refine .F 3 rfl (.v (x:=.vc 0 ([]:List aa).length) (vL aa.row Tryz.underlying23 Bt Bu) rfl (.u9 (st':=⟨[],[⟨58,12,([]:List aa).length,some (([]:List aa).map aa.row)⟩]⟩) rfl (.F 1 rfl ?_)));refine .v (x:=.vc 0 (([]:List aa)++l).length) (fC (l:=[]) (l':=l) (row:=aa.row) Tryz.underlying23 Bt Iw Bu rfl (by rw [Ix];decide) rfl rfl rfl rfl (by simpa using hk)) rfl ?_;refine .u9 (st':=⟨[],[⟨58,12,(([]:List aa)++l).length,some ((([]:List aa)++l).map aa.row)⟩]⟩) rfl (.E 2 rfl (.R Tryz.func48 Tryz.results48 rfl ?_));exact ⟨[],[0],rfl,rfl,rfl,rfl,rfl,rfl,rfl,rfl,.aj _⟩
theorem lG {l r:List aa} (H:dX l=some r):aD Tryz.prog 48 [ag 12 aa.row l] (·=ag 12 aa.row r):=.of (np H).MZ
def iK (base:Nat) (w:World) (v:Value) (n:Nat) (xs:List Value) (v':Value) (w':World):Prop :=
 w'.ownsRow base 106 3 v' n xs/\((v'.ownBlock=v.ownBlock/\w'.heap.size=w.heap.size/\w.grownBy w' v.ownBlock)∨(v'.ownBlock=some w.heap.size/\Below w.heap.size w w'))
theorem wY {base m:Nat} {w:World} {u:Value} {ys:List Value} (hu:w.ownsRow base 106 3 u m ys) (h1:∀ y∈ys,y.oneCell'=true):Go.Abs.Src Tryz.prog w 3 u m ys:=by
 rcases hu.2 with ⟨rfl,rfl⟩|⟨b,cap,cur,rfl,hb,hg,EA,zb,yC,Dd⟩
 ·have:ys=[]:=zaw (by simpa using hu.1);subst this;exact ⟨rfl,λw' _=>run_firstCells_none w' _ 0 0 _,by simp,by simp⟩
 ·refine ⟨rfl,λw' hw=>run_firstCells_some w' _ m _ m cap ys hu.1 λj y hj=>?_,hu.1,h1⟩;rw [World.cell?_of_block (w:=w) (by rw [hw])];exact hu.cells (g:=b) rfl j y hj
theorem Iy (w:World) {base n m:Nat} {v u:Value} {xs ys:List Value} (hs:w.ownsRow base 106 3 v n xs) (hu:w.ownsRow base 106 3 u m ys) (hm:0<m) (hb:n+m<=1000000000) (kf:base<=w.heap.size) (h1:∀ y∈ys,y.oneCell'=true) :
  Calls Tryz.prog 164 #[v,.int .i64 n,u] w λe w'=>∃ v',e=.returned v'/\iK base w v (n+m) (xs++ys) v' w':=by
 have t3:=Tryz.underlying3;have t22:=Tryz.underlying22;have u3:=run_underlying Tryz.underlying3;have RE:=run_underlying Tryz.underlying22;have LR:¬ ((m:Int)=0):=by omega
 obtain ⟨i,hi,hz,fB,Ei⟩:=sd;obtain ⟨v',w',hC,j5,_,hc⟩:=kR (P:=Tryz.prog) (ty:=22) w Tryz.underlying22 Tryz.underlying22 (.inr ⟨_,rfl⟩) hi hz fB (by rfl) hs (wY hu h1) (by simp only [maxLen];omega) (by rw [Ei];omega) kf;rcases hu.2 with ⟨_,h0⟩|⟨vb,vc,CN,rfl,_⟩
 ·omega
 rcases hs.2 with ⟨rfl,rfl⟩|⟨b,c,cur,rfl,AT,hg,EA,zb,yC,Dd⟩
 ·go_enter Tryz.func164,Tryz.ntmps164
  go_wp2_with (at_builtin;refine Lib.wpList_append_run _ rfl _ _ _ _ rfl _ _ rfl rfl _ _ hC ?_)
  go_ret;exact ⟨_,rfl,j5,hc⟩
 ·go_enter Tryz.func164,Tryz.ntmps164
  go_wp2_with (at_builtin;refine Lib.wpList_append_run _ rfl _ _ _ _ rfl _ _ rfl rfl _ _ hC ?_)
  all_goals (go_ret;exact ⟨_,rfl,j5,hc⟩)
theorem mQ {w:World} {base b n c:Nat} {xs:List Value} (hs:w.ownsRow base 106 3 (.slice (some ⟨b,0,none⟩) n c) n xs):base<=b/\n<=c/\c<=maxLen/\∃ cur:Array Value,w.heap[b]?=some (.cells cur 106 (0,0))/\cur.size=c*3/\cur.toList.take (n*3)=xs:=by
 rcases hs.2 with ⟨h,_⟩|⟨b',c',cur,h,AT,hg,EA,zb,yC,Dd⟩
 ·cases h
 ·cases h;exact ⟨AT,EA,zb,cur,hg,yC,Dd⟩
theorem Iz (w:World) {b vb m vc o lb cb cs:Nat} {cur CN:Array Value} (fh:vb≠b) (hg:w.heap[b]?=some (.cells cur 106 (0,0))) (Ox:w.heap[vb]?=some (.cells CN 106 (0,0))) (hk:cur.size≠0) :
  (callFunc 193 #[.slice (some ⟨vb,0,none⟩) m vc,.slice (some ⟨b,o,none⟩) lb cb]).run Tryz.prog w=.ok (.value (.bool false)) w:=by
 obtain ⟨i,hi,hz,fB,Ei⟩:=sd;rw [run_callFunc_extern Tryz.func193 (by kernel_rfl) (by kernel_rfl) (by kernel_rfl) (e:=Extern.SlicesOverlaps.overlaps #[22,22] #[4]) (by kernel_rfl),
  Lib.run_overlaps_apart w 22 4 106 Tryz.underlying22 3 (λw'=>by simp [sizeOf,typeInfo,hi,fB]) ⟨vb,0,none⟩ ⟨b,o,none⟩ m vc lb cb fh 106 106 CN.size cur.size (by simp [World.shape?,Ox]) (by simp [World.shape?,hg]) hk (by simp [World.frozen?,Ox]) (by simp [World.frozen?,Ox])]
 rfl
theorem Fh (w:World) {base b n c i vb m vc:Nat} {xs ys:List Value} (hs:w.ownsRow base 106 3 (.slice (some ⟨b,0,none⟩) n c) n xs) (hu:w.ownsRow base 106 3 (.slice (some ⟨vb,0,none⟩) m vc) m ys) (fh:vb≠b) (hi:i<n) (hm:0<m) (hb:n+m<=1000000000) (uG:n+m<=c)
  (DN:∀ x∈xs,x.oneCell'=true) (h1:∀ y∈ys,y.oneCell'=true) :
  Calls Tryz.prog 164 #[.slice (some ⟨b,0,none⟩) n c,.int .i64 i,.slice (some ⟨vb,0,none⟩) m vc] w λe w'=>∃ v',e=.returned v'/\iK base w (.slice (some ⟨b,0,none⟩) n c) (n+m) (xs.take (i*3)++ys++xs.drop (i*3)) v' w':=by
 have t3:=Tryz.underlying3;have t22:=Tryz.underlying22;have u3:=run_underlying Tryz.underlying3;have RE:=run_underlying Tryz.underlying22;obtain ⟨AT,EA,zb,cur,hg,yC,Dd⟩:=mQ hs;obtain ⟨_,hvc,_,CN,Ox,VM,VN⟩:=mQ hu;obtain ⟨inf,kV,hz,fB,Ei⟩:=sd;simp only [maxLen] at zb;have z32:∀ w,(Go.sizeOf 106).run Tryz.prog w=.ok 3 w:=λw'=>by simp [sizeOf,typeInfo,kV,fB]
 have LR:¬ ((m:Int)=0):=by omega
 have WY:¬ ((i:Int)=(n:Int)):=by omega
 have mixed:=lN;have Zo:IntKind.i64.wrap ((i:Int)+(m:Int))=(i:Int)+(m:Int):=by rw [IntKind.wrap_i64];omega
 have Js:(0:Int)<=(i:Int)+(m:Int):=by omega
 have Dj:i<=n:=by omega
 have Zp:((i:Int)+(m:Int)).toNat=i+m:=by omega
 have Lg:¬ (c=i+m):=by omega
 have Ej:(i:Int)<=(n:Int)+(m:Int):=by omega
 have Sg:¬ (c=i):=by omega
 have Oy:cur.size≠0:=by rw [yC];omega
 have wu:=hs.1;have vN:=hu.1;have hov:∀ o lb cb,(callFunc 193 #[.slice (some ⟨vb,0,none⟩) m vc,.slice (some ⟨b,o,none⟩) lb cb]).run Tryz.prog w=.ok (.value (.bool false)) w:=λo lb cb=>Iz (cs:=0) w fh hg Ox Oy
 -- the first copy
 have Bp:∀ j x,xs[j]?=some x->w.cell? ⟨b,j,none⟩=some x:=λj x hj=>by have:=hs.cells (g:=b) rfl j x hj;rwa [Addr.add_lit,zbp] at this
 have Mg:∀ j v,(xs.drop (i*3))[j]?=some v->w.cell? (Addr.add ⟨b,i*3,none⟩ j)=some v:=λj v hj=>by
  rw [zaz] at hj;rw [Addr.add_lit];exact Bp _ _ hj
 have R5:Nat.min (n+m-i) (n+m-(i+m))=n-i:=qU (by omega);have VO:Nat.min m (n+m-i)=m:=qU (by omega);have AS:(xs.drop (i*3)).length=Nat.min (n+m-i) (n+m-(i+m))*3:=by rw [zbh,wu,R5];omega
 have Gl:∀ (W:World),W.heap=w.heap->∀ ty dc sc,(Builtin.copy_ #[22,22] ty #[.slice (some ⟨b,(i+m)*3,none⟩) (n+m-(i+m)) dc,.slice (some ⟨b,i*3,none⟩) (n+m-i) sc]).run Tryz.prog W=.ok (goInt (Nat.min (n+m-i) (n+m-(i+m)))) (W.setRow b (laid cur.toList ((i+m)*3) (xs.drop (i*3))).toArray):=λW hW ty dc sc =>
  mV W Tryz.underlying22 kV fB (by rw [hW];exact hg) AS (λj v hj=>by rw [World.cell?_of_block (w:=w) (by rw [hW])];exact Mg j v hj) (λv hv=>DN v (zct hv)) (by rw [AS,yC,R5];omega)
 generalize zf:laid cur.toList ((i+m)*3) (xs.drop (i*3))=L1 at Gl;have r7:cur.toList.length=c*3:=by simpa using yC
 have oo:(i+m)*3+(xs.drop (i*3)).length<=cur.toList.length:=by rw [zbh,wu,r7];omega
 have Dx:L1.length=cur.toList.length:=by rw [←zf];exact iT oo
 have B8:∀ j v,ys[j]?=some v->w.cell? (Addr.add ⟨vb,0,none⟩ j)=some v:=λj v hj=>hu.cells (g:=vb) rfl j v hj
 have Ka:∀ (W:World),W.heap[b]?=some (.cells L1.toArray 106 (0,0))->(∀ x:Addr,x.block≠b->W.cell? x=w.cell? x)->∀ ty dc,(Builtin.copy_ #[22,22] ty #[.slice (some ⟨b,i*3,none⟩) (n+m-i) dc,.slice (some ⟨vb,0,none⟩) m vc]).run Tryz.prog W=.ok (goInt (Nat.min m (n+m-i))) (W.setRow b (laid L1 (i*3) ys).toArray):=λW Qn Qo ty dc =>
  mV W Tryz.underlying22 kV fB Qn (by rw [vN,VO]) (λj v hj=>by rw [Qo _ (by rw [Addr.add_lit];exact fh)];exact B8 j v hj) h1 (by simp only [zbq];omega)
 have Ll:((w.drew).setRow b L1.toArray).heap[b]?=some (.cells L1.toArray 106 (0,0)):=setRow_heap w.drew b cur _ 106 (0,0) hg;have ux:∀ x:Addr,x.block≠b->((w.drew).setRow b L1.toArray).cell? x=w.cell? x:=λx hx=>World.cell?_of_block (w:=w) (setRow_other w.drew b x.block _ hx)
 have oZ:iK base w (.slice (some ⟨b,0,none⟩) n c) (n+m) (xs.take (i*3)++ys++xs.drop (i*3)) (.slice (some ⟨b,0,none⟩) (n+m) c) (((w.drew).setRow b L1.toArray).setRow b (laid L1 (i*3) ys).toArray):=by
  have Bq:i*3+ys.length<=L1.length:=by rw [vN,Dx,r7];omega
  refine ⟨⟨by simp only [zai,zay,zbh];omega,.inr ⟨b,c,_,rfl,AT,setRow_heap _ b _ _ 106 (0,0) Ll,uG,by simp only [maxLen];omega,by rw [zbq,iT Bq,Dx,r7],?_⟩⟩,
   .inl ⟨rfl,by simp,⟨rfl,rfl,rfl,by simp,λk hk Iv=>?_⟩⟩⟩
  ·rw [zcp,js Bq (by rw [vN];omega),←zf];have e1:(laid cur.toList ((i+m)*3) (xs.drop (i*3))).take (i*3)=xs.take (i*3):=by
    apply zby;intro j;rw [zaj,zaj,xV oo];by_cases h:j<i*3
    ·rw [zab h,zab h,zaa (by omega),←Dd,zaj,zab (by omega)]
    ·rw [zaa h,zaa h]
   rw [e1];congr 1;rw [js oo (by rw [zbh,wu];omega),vN];apply zby;intro j;rw [zaz];have cD:(List.take ((i+m)*3) cur.toList).length=(i+m)*3:=by rw [zay,r7];omega
   by_cases h:j<(n-i)*3
   ·rw [zak (by rw [zai,cD,zbh,wu];omega),zat (by rw [cD];omega),cD];congr 1;omega
   ·rw [zbl (by simp only [zai,zbh,zay,r7,wu];omega),zbl (by rw [zbh,wu];omega)]
  ·rw [setRow_other _ b k _ (λe=>Iv (by rw [e];rfl)),setRow_other _ b k _ (λe=>Iv (by rw [e];rfl))];rfl
 have Qp:=Gl w.drew rfl;have Qq:=Ka _ Ll ux;go_enter Tryz.func164,Tryz.ntmps164
 go_wp2_with (simp only [hov])
 go_region_law_o (refine mb rfl _ _ 22 22 rfl _ _ (by simp [Act.eval,Act.put]) (by simp [Act.eval,Act.put]) (Qp _ _ _) ?_)
 go_wp2_with (at_builtin;refine jQ _ rfl _ _ 22 22 rfl _ _ rfl rfl (Qq _ _) ?_)
 go_ret;exact ⟨_,rfl,oZ⟩
theorem Gq (w:World) {base b n c i vb m vc:Nat} {xs ys:List Value} (hs:w.ownsRow base 106 3 (.slice (some ⟨b,0,none⟩) n c) n xs) (hu:w.ownsRow base 106 3 (.slice (some ⟨vb,0,none⟩) m vc) m ys) (hi:i<n) (hm:0<m) (hb:n+m<=1000000000) (uG:c<n+m) (kf:base<=w.heap.size)
  (DN:∀ x∈xs,x.oneCell'=true) (h1:∀ y∈ys,y.oneCell'=true) :
  Calls Tryz.prog 164 #[.slice (some ⟨b,0,none⟩) n c,.int .i64 i,.slice (some ⟨vb,0,none⟩) m vc] w λe w'=>∃ v',e=.returned v'/\iK base w (.slice (some ⟨b,0,none⟩) n c) (n+m) (xs.take (i*3)++ys++xs.drop (i*3)) v' w':=by
 have t3:=Tryz.underlying3;have t22:=Tryz.underlying22;have u3:=run_underlying Tryz.underlying3;have RE:=run_underlying Tryz.underlying22;obtain ⟨AT,EA,zb,cur,hg,yC,Dd⟩:=mQ hs;obtain ⟨_,hvc,_,CN,Ox,VM,VN⟩:=mQ hu;obtain ⟨inf,kV,hz,fB,Ei⟩:=sd;simp only [maxLen] at zb;have mixed:=lN;have LR:¬ ((m:Int)=0):=by omega
 have WY:¬ ((i:Int)=(n:Int)):=by omega
 have vn:(c:Int)<(n:Int)+(m:Int):=by omega
 have hbw:b<w.heap.size:=(hs.lt b rfl).2;have hvw:vb<w.heap.size:=(hu.lt vb rfl).2;have Yq:(n:Int)+(m:Int) - (i:Int)=((n+m-i:Nat):Int):=by omega
 have VP:i+(n+m-i)=n+m:=by omega
 have wu:=hs.1;have vN:=hu.1;have Bp:∀ j x,xs[j]?=some x->w.cell? ⟨b,j,none⟩=some x:=λj x hj=>by have:=hs.cells (g:=b) rfl j x hj;rwa [Addr.add_lit,zbp] at this
 have hold:(Builtin.firstCells inf.size i (.slice (some ⟨b,0,none⟩) i c)).run Tryz.prog w.drew=.ok (xs.take (i*3)).toArray w.drew:=by
  rw [fB];refine run_firstCells_some w.drew 3 i ⟨b,0,none⟩ i c (xs.take (i*3)) (by rw [zay];omega) (λj v hj=>?_);rw [Addr.add_lit,zbp];rw [zaj] at hj;split at hj
  ·exact Bp j v hj
  ·cases hj
 generalize hzv:(Value.agg _)=zv at hz;have Df:zv.cells.size=3:=by rw [←hzv];rfl
 have VQ:∀ ty,(Builtin.append_ #[22,3] ty #[.slice (some ⟨b,0,none⟩) i c,.int .i64 ((n:Int)+(m:Int) - (i:Int))]).run Tryz.prog w =
   .ok (.slice (some ⟨w.heap.size,0,none⟩) (n+m) (grownCap w (n+m) c 106)) (w.drew.alloc (.cells ((xs.take (i*3)).toArray++Builtin.zeroCells zv.cells (n+m-i)++Builtin.zeroCells zv.cells (grownCap w (n+m) c 106-(n+m))) 106)):=λty=>by
  have h:=Lib.run_append_grow_zeros w 22 3 ty 106 inf zv .i64 .i64 Tryz.underlying22 Tryz.underlying3 kV hz (some ⟨b,0,none⟩) i c (xs.take (i*3)) hold (n+m-i) (by omega) (by omega) (by omega) (by omega) (by rw [Ei];omega) (by rw [VP];exact growslice_fits uG (by rw [Ei];omega));rw [VP] at h;rw [Yq];exact h
 have Yr:n+m<=grownCap w (n+m) c 106:=grownCap_ge w _ _ _;have Qr:grownCap w (n+m) c 106<=maxLen:=grownCap_le_maxLen w (n+m) c 106 (by unfold maxLen;omega);generalize grownCap w (n+m) c 106=G at VQ Yr Qr;simp only [maxLen] at Qr;generalize hROW:(xs.take (i*3)).toArray++Builtin.zeroCells zv.cells (n+m-i)++Builtin.zeroCells zv.cells (G-(n+m))=vo at VQ;have Ys:vo.size=G*3:=by
  rw [←hROW];simp only [zfc,zbq,zay,size_zeroCells,Df,wu];omega
 have hRt:vo.toList.take (i*3)=xs.take (i*3):=by
  rw [←hROW];simp only [zfu,zax];rw [List.take_append_of_le_length (by rw [zay];omega),zcc (by rw [zay];omega)]
 have VR:vo.toList.length=G*3:=by simpa using Ys
 have hmA:Nat.min m (n+m-i)=m:=qU (by omega);have hmB:Nat.min (n-i) (n+m-(i+m))=n-i:=qU (by omega);have AS:(xs.drop (i*3)).length=(n-i)*3:=by rw [zbh,wu];omega
 have Kb:i*3+ys.length<=vo.toList.length:=by rw [vN,VR];omega
 have Qs:∀ (W:World),W.heap[w.heap.size]?=some (.cells vo 106 (0,0))->(∀ x:Addr,x.block<w.heap.size->W.cell? x=w.cell? x)->∀ ty dc,(Builtin.copy_ #[22,22] ty #[.slice (some ⟨w.heap.size,i*3,none⟩) (n+m-i) dc,.slice (some ⟨vb,0,none⟩) m vc]).run Tryz.prog W=.ok (goInt (Nat.min m (n+m-i))) (W.setRow w.heap.size (laid vo.toList (i*3) ys).toArray):=λW Qn Qo ty dc =>
  mV W Tryz.underlying22 kV fB Qn (by rw [vN,hmA]) (λj v hj=>by rw [Qo _ (by rw [Addr.add_lit];exact hvw)];exact hu.cells (g:=vb) rfl j v hj) h1 (by rw [vN,Ys];omega)
 generalize zf:laid vo.toList (i*3) ys=L1 at Qs;have Dx:L1.length=vo.toList.length:=by rw [←zf];exact iT Kb
 have Kc:(i+m)*3+(xs.drop (i*3)).length<=L1.length:=by rw [AS,Dx,VR];omega
 have Qt:∀ (W:World),W.heap[w.heap.size]?=some (.cells L1.toArray 106 (0,0))->(∀ x:Addr,x.block<w.heap.size->W.cell? x=w.cell? x)->∀ ty dc sc,(Builtin.copy_ #[22,22] ty #[.slice (some ⟨w.heap.size,(i+m)*3,none⟩) (n+m-(i+m)) dc,.slice (some ⟨b,i*3,none⟩) (n-i) sc]).run Tryz.prog W=.ok (goInt (Nat.min (n-i) (n+m-(i+m)))) (W.setRow w.heap.size (laid L1 ((i+m)*3) (xs.drop (i*3))).toArray):=λW Qn Qo ty dc sc =>
  mV W Tryz.underlying22 kV fB Qn (by rw [AS,hmB]) (λj v hj=>by
   rw [Qo _ (by rw [Addr.add_lit];exact hbw),Addr.add_lit];rw [zaz] at hj;exact Bp _ _ hj) (λv hv=>DN v (zct hv)) (by simp only [zbq];omega)
 generalize Ba:laid L1 ((i+m)*3) (xs.drop (i*3))=L2 at Qt;have O8:L2.length=L1.length:=by rw [←Ba];exact iT Kc
 have Br:∀ W:World,W.heap=w.heap.push (.cells vo 106 (0,0))->W.heap[w.heap.size]?=some (.cells vo 106 (0,0)):=λW hW=>by rw [hW];simp
 have VS:∀ W:World,W.heap=w.heap.push (.cells vo 106 (0,0))->∀ x:Addr,x.block<w.heap.size->W.cell? x=w.cell? x:=λW hW x hx=>World.cell?_of_block (w:=w) (by rw [hW,zdd hx];simp [hx]);have Yt:∀ W:World,W.heap=w.heap.push (.cells vo 106 (0,0))->(W.setRow w.heap.size L1.toArray).heap[w.heap.size]?=some (.cells L1.toArray 106 (0,0)):=λW hW=>setRow_heap W _ vo _ 106 (0,0) (Br W hW)
 have Rz:∀ W:World,W.heap=w.heap.push (.cells vo 106 (0,0))->∀ x:Addr,x.block<w.heap.size->(W.setRow w.heap.size L1.toArray).cell? x=w.cell? x:=λW hW x hx=>(World.cell?_of_block (w:=W) (setRow_other W _ x.block _ (by omega))).trans (VS W hW x hx)
 have oZ:∀ W W2:World,W.heap=w.heap.push (.cells vo 106 (0,0))->W.os=w.os->W.tape=w.tape->W.output=w.output->W2.heap=(W.setRow w.heap.size L1.toArray).heap->W2.os=w.os->W2.tape=w.tape->W2.output=w.output ->
   iK base w (.slice (some ⟨b,0,none⟩) n c) (n+m) (xs.take (i*3)++ys++xs.drop (i*3)) (.slice (some ⟨w.heap.size,0,none⟩) (n+m) G) (W2.setRow w.heap.size L2.toArray):=by
  intro W W2 hW ho ht hou VT NT B9 VU;have VV:W2.heap[w.heap.size]?=some (.cells L1.toArray 106 (0,0)):=by rw [VT];exact Yt W hW
  refine ⟨⟨by simp only [zai,zay,zbh];omega,.inr ⟨w.heap.size,G,_,rfl,kf,setRow_heap _ _ _ _ 106 (0,0) VV,Yr,by simp only [maxLen];omega,by rw [zbq,O8,Dx,VR],?_⟩⟩,
   .inr ⟨rfl,⟨NT,B9,VU,by simp [VT,hW],λk hk=>?_⟩⟩⟩
  ·have e2:(L1.take ((n+m)*3)).drop ((i+m)*3+(xs.drop (i*3)).length)=[]:=zci (by rw [zay,AS];omega);rw [zcp,←Ba,js Kc (by rw [AS];omega),e2,←zf];have e1:(laid vo.toList (i*3) ys).take ((i+m)*3)=xs.take (i*3)++ys:=by
    rw [js Kb (by rw [vN];omega),hRt,vN,zci (by rw [zay];omega),zcg]
   rw [e1,zcg]
  ·rw [setRow_other _ _ k _ (by omega),VT,setRow_other _ _ k _ (by omega),hW,zdd hk];simp [hk]
 clear Yq VP hold hROW;have hGi:¬ (G=i):=by omega
 have hGim:¬ (G=i+m):=by omega
 have qQ:¬ (c=i):=by omega
 have Zo:IntKind.i64.wrap ((i:Int)+(m:Int))=(i:Int)+(m:Int):=by rw [IntKind.wrap_i64];omega
 have Js:(0:Int)<=(i:Int)+(m:Int):=by omega
 have Dj:i<=n:=by omega
 have Zp:((i:Int)+(m:Int)).toNat=i+m:=by omega
 have Ej:(i:Int)<=(n:Int):=by omega
 have Qu:=Qs (w.alloc (.cells vo 106)).drew (Br _ rfl) (VS _ rfl);have Qv:=Qt ((w.alloc (.cells vo 106)).drew.setRow w.heap.size L1.toArray).drew (Yt _ rfl) (Rz (w.alloc (.cells vo 106)).drew rfl);have Qw:=oZ (w.alloc (.cells vo 106)).drew ((w.alloc (.cells vo 106)).drew.setRow w.heap.size L1.toArray).drew rfl rfl rfl rfl rfl rfl rfl rfl;go_enter Tryz.func164,Tryz.ntmps164
 go_wp2_with (first
  | (at_builtin;refine Lib.wpList_append_run _ rfl _ _ _ _ rfl _ _ rfl rfl _ _ (VQ _) ?_)
  | (at_builtin;refine jQ _ rfl _ _ 22 22 rfl _ _ rfl rfl (Qu _ _) ?_))
 go_region_law_o (refine mb rfl _ _ 22 22 rfl _ _ (by simp [Act.eval,Act.put]) (by simp [Act.eval,Act.put]) (Qv _ _ _) ?_)
 go_wp2
 go_ret;exact ⟨_,rfl,Qw⟩
theorem IA (w:World) {base m:Nat} {A:Option Addr} {u:Value} {ys:List Value} (hu:w.ownsRow base 106 3 u m ys) (hm:0<m) (hb:m<=1000000000) (kf:base<=w.heap.size) (h1:∀ y∈ys,y.oneCell'=true) :
  Calls Tryz.prog 164 #[.slice A 0 0,.int .i64 0,u] w λe w'=>∃ v',e=.returned v'/\iK base w (.slice none 0 0) m ys v' w':=by
 have t3:=Tryz.underlying3;have t22:=Tryz.underlying22;have u3:=run_underlying Tryz.underlying3;have RE:=run_underlying Tryz.underlying22;have LR:¬ ((m:Int)=0):=by omega
 obtain ⟨i,hi,hz,fB,Ei⟩:=sd;have hs:=World.ownsRow_nil w base 106 3;obtain ⟨v',w',hC,j5,_,hc⟩:=kR (P:=Tryz.prog) (ty:=22) w Tryz.underlying22 Tryz.underlying22 (.inr ⟨_,rfl⟩) hi hz fB (by rfl) hs (wY hu h1) (by simp only [maxLen];omega) (by rw [Ei];omega) kf;rw [zbp,zbz] at j5;have Kd:=((wB (ty:=22) Tryz.underlying22 Tryz.underlying22 (.inr ⟨_,rfl⟩) hi hz fB (wY hu h1) (by omega) (by rw [Ei];omega) A).2 (by omega)).trans hC;rcases hu.2 with ⟨_,h0⟩|⟨vb,vc,CN,rfl,_⟩
 ·omega
 cases A with
 | none =>
  go_enter Tryz.func164,Tryz.ntmps164
  go_wp2_with (at_builtin;refine Lib.wpList_append_run _ rfl _ _ _ _ rfl _ _ rfl rfl _ _ Kd ?_)
  all_goals (go_ret;exact ⟨_,rfl,j5,hc⟩)
 | some A =>
  obtain ⟨ab,ao,asp⟩:=A;go_enter Tryz.func164,Tryz.ntmps164
  go_wp2_with (at_builtin;refine Lib.wpList_append_run _ rfl _ _ _ _ rfl _ _ rfl rfl _ _ Kd ?_)
  all_goals (go_ret;exact ⟨_,rfl,j5,hc⟩)
theorem Fi (w:World) {base n m i:Nat} {v u:Value} {xs ys:List Value} (hs:w.ownsRow base 106 3 v n xs) (hu:w.ownsRow base 106 3 u m ys) (fh:∀ b,v.ownBlock=some b->u.ownBlock≠some b) (hi:i<=n) (hm:0<m) (hb:n+m<=1000000000) (kf:base<=w.heap.size)
  (DN:∀ x∈xs,x.oneCell'=true) (h1:∀ y∈ys,y.oneCell'=true) :
  Calls Tryz.prog 164 #[v,.int .i64 i,u] w λe w'=>∃ v',e=.returned v'/\iK base w v (n+m) (xs.take (i*3)++ys++xs.drop (i*3)) v' w':=by
 by_cases Dj:i=n
 ·subst Dj;have wu:=hs.1;rw [zcc (by omega),zci (by omega),zcg];exact Iy w hs hu hm hb kf h1
 ·obtain ⟨b,c,rfl⟩:=(iS hs).2 (by omega);obtain ⟨vb,vc,rfl⟩:=(iS hu).2 (by omega);by_cases hr:n+m<=c
  ·exact Fh w hs hu (λe=>fh b rfl (by rw [e];rfl)) (by omega) hm hb hr DN h1
  ·exact Gq w hs hu (by omega) hm hb (by omega) kf DN h1
theorem DU {l l' r:List Range} {n0 n1:Nat} {i:Int} (H:zN i l l'=some r) :
  aK Tryz.prog 164 [.vc 0 n0,.d (cI i),.vc 1 n1] ⟨[],[⟨106,3,n0,some (l.map Range.row)⟩,⟨106,3,n1,some (l'.map Range.row)⟩]⟩
   (QE (.vc 2 r.length) ⟨[],[⟨106,3,([]:List Range).length,none⟩,⟨106,3,n1,some (l'.map Range.row)⟩,⟨106,3,r.length,some (r.map Range.row)⟩]⟩):=by
 obtain ⟨hk,H⟩:=ar H;cases H;intro g w base vs hinv ha;obtain ⟨x,y,z,rfl,e1,e2,e3⟩:=P6 rfl ha;obtain ⟨k0,k1,k2,k3⟩:=hk;have Lj:y=.int .i64 i:=e2.bJ;subst Lj;obtain ⟨xs,s1,s2,s3⟩:=hinv.own 0 _ _ _ _ rfl;obtain ⟨ys,u1,u2,u3⟩:=hinv.own 1 _ _ _ _ rfl;have Lh:n0=l.length:=by have:=s3.len;simpa using this.symm
 have hn1:n1=l'.length:=by have:=u3.len;simpa using this.symm
 have hz:z=g.tk 1:=by
  rcases sI hinv rfl e3 with h|⟨_,h,_⟩
  ·exact h
  ·have:l'=[]:=by simpa using h
   rw [this] at k2;simp at k2
 subst hz;obtain ⟨j,rfl⟩:∃ j:Nat,i=(j:Int):=⟨i.toNat,by omega⟩;have rm:=s3.UU s1.1 u3 u1.1 (i:=j) (j:=j) (zam _) (by omega);have jv:(l.map Range.row).take j++l'.map Range.row++(l.map Range.row).drop j=(l.take j++l'++l.drop j).map Range.row:=by simp [List.map_take,List.map_drop]
 rw [jv,show j+n1+(n0-j)=n0+n1 from by omega] at rm;have hlen:(l.take j++l'++l.drop j).length=n0+n1:=by simp;omega
 have DN:=s3.one s1.1;have Yu:=u3.one u1.1;have fin:∀ v0:Value,(v0.ownBlock=(g.tk 0).ownBlock∨v0.ownBlock=none/\0<n0+n1)->∀ e w',(∃ v',e=.returned v'/\iK base w v0 (n0+n1) (xs.take (j*3)++ys++xs.drop (j*3)) v' w') ->
   nt ⟨g,w,⟨[],[⟨106,3,n0,some (l.map Range.row)⟩,⟨106,3,n1,some (l'.map Range.row)⟩]⟩,base⟩ (QE (.vc 2 (l.take (j:Int).toNat++l'++l.drop (j:Int).toNat).length) ⟨[],[⟨106,3,([]:List Range).length,none⟩,⟨106,3,n1,some (l'.map Range.row)⟩,⟨106,3,(l.take (j:Int).toNat++l'++l.drop (j:Int).toNat).length,some ((l.take (j:Int).toNat++l'++l.drop (j:Int).toNat).map Range.row)⟩]⟩) e w':=by
  rintro v0 LD e w' ⟨v',rfl,ho,hc⟩;rw [zch,hlen];refine wO hinv (tk:=0) rfl rfl ho ?_ rm;rcases hc with ⟨c1,c2,c3⟩|hc
  ·rcases LD with LD|⟨LD,hp⟩
   ·rw [LD] at c1 c3;exact .inl ⟨c1,c2,c3⟩
   ·rw [LD] at c1;obtain ⟨b,c,ML⟩:=(iS ho).2 (by omega);rw [ML] at c1;cases c1
  ·exact .inr hc
 rcases sI hinv rfl e1 with hx|⟨h0,UX,A,hx⟩
 ·subst hx;refine (Fi w s1 u1 (λb h1 h2=>hinv.nF 0 1 _ _ b (by decide) rfl rfl h1 h2) (i:=j) (by omega) (by omega) (by omega) hinv.base DN Yu).mono ?_;exact fin _ (.inl rfl)
 ·subst hx;have hj:j=0:=by omega
  subst hj;have RR:xs=[]:=zaw (by rw [s1.1,h0,zfo]);subst RR;refine (IA w (A:=A) u1 (by omega) (by omega) hinv.base Yu).mono λe w' hh=>fin (.slice none 0 0) (.inr ⟨rfl,by omega⟩) e w' ?_
  rw [h0,zbp];simpa using hh
theorem Fj (w:World) {base b n c i j:Nat} {xs:List Value} (hs:w.ownsRow base 106 3 (.slice (some ⟨b,0,none⟩) n c) n xs) (h1:∀ y∈xs,y.oneCell'=true) (hi:i<j) (hj:j<=n) (hb:n<=1000000000) :
  Calls Tryz.prog 166 #[.slice (some ⟨b,0,none⟩) n c,.int .i64 i,.int .i64 j] w λe w'=>∃ v',e=.returned v'/\iK base w (.slice (some ⟨b,0,none⟩) n c) (i+(n-j)) (xs.take (i*3)++xs.drop (j*3)) v' w':=by
 have t3:=Tryz.underlying3;have t22:=Tryz.underlying22;have u3:=run_underlying Tryz.underlying3;have RE:=run_underlying Tryz.underlying22;obtain ⟨AT,EA,zb,cur,hg,yC,Dd⟩:=mQ hs;obtain ⟨inf,kV,hz,fB,Ei⟩:=sd;simp only [maxLen] at zb;generalize hzv:(Value.agg _)=zv at hz;have Df:zv.cells.size=3:=by rw [←hzv];rfl
 have LR:∀ v∈(Builtin.zeroCells zv.cells (n-(i+(n-j)))).toList,v.oneCell'=true:=va (by rw [Df,←hzv];decide);have wu:=hs.1;have r7:cur.toList.length=c*3:=by simpa using yC
 have vN:(xs.drop (j*3)).length=(n-j)*3:=by rw [zbh,wu];omega
 have cM:∀ y∈xs.drop (j*3),y.oneCell'=true:=λy hy=>h1 y (zct hy)
 have oo:i*3+(xs.drop (j*3)).length<=cur.toList.length:=by rw [vN,r7];omega
 have WZ:w.drew.heap[b]?=some (.cells cur 106 (0,0)):=hg;have r8:∀ (q:Nat) (y:Value),xs[q]?=some y->w.drew.cell? ((⟨b,0,none⟩:Addr).add q)=some y:=hs.cells (g:=b) rfl;have hf:(Builtin.firstCells 3 (n-j) (.slice (if c=j then some ⟨b,0,none⟩ else some ⟨b,j*3,none⟩) (n-j) (c-j))).run Tryz.prog w.drew=.ok (xs.drop (j*3)).toArray w.drew:=by
  by_cases VW:c=j
  ·have hnj:n-j=0:=by omega
   have hx0:xs.drop (j*3)=[]:=zaw (by rw [vN,hnj,zfo]);rw [zab VW,hnj,hx0];exact run_firstCells_some w.drew _ 0 _ 0 (c-j) [] rfl (λq y hq=>by simp at hq)
  ·rw [zaa VW];exact run_firstCells_some w.drew _ (n-j) _ (n-j) (c-j) _ vN λq y hq=>by
    rw [zaz] at hq;have:=r8 (j*3+q) y hq;simp only [Addr.add_lit,zbp] at this ⊢;exact this
 have hC:∀ ty,(Builtin.append_ #[22,22] ty #[.slice (some ⟨b,0,none⟩) i c,.slice (if c=j then some ⟨b,0,none⟩ else some ⟨b,j*3,none⟩) (n-j) (c-j)]).run Tryz.prog w.drew=.ok (.slice (some ⟨b,0,none⟩) (i+(n-j)) c) (w.drew.setRow b (laid cur.toList (i*3) (xs.drop (j*3))).toArray):=λty =>
  Dq w.drew Tryz.underlying22 kV fB WZ (by omega) hf cM (by rw [←zcm];exact oo)
 generalize Zq:xs.drop (j*3)=ys at hC oo vN cM hf ⊢;generalize zf:laid cur.toList (i*3) ys=L1 at hC;have Dx:L1.length=cur.toList.length:=by rw [←zf];exact iT oo
 have Ll:(w.drew.setRow b L1.toArray).heap[b]?=some (.cells L1.toArray 106 (0,0)):=setRow_heap w.drew b cur _ 106 (0,0) WZ;have W4:L1.take ((i+(n-j))*3)=xs.take (i*3)++ys:=by
  have e1:(cur.toList.take ((i+(n-j))*3)).drop (i*3+ys.length)=[]:=zci (by rw [zay,vN];omega);rw [←zf,js oo (by rw [vN];omega),e1,zcg,←Dd,zez,show min (i*3) (n*3)=i*3 from by omega]
 have hlen:(xs.take (i*3)++ys).length=(i+(n-j))*3:=by simp only [zai,zay];omega
 have hm:i+(n-j)<n:=by omega
 have Dy:(i+(n-j))*3+(Builtin.zeroCells zv.cells (n-(i+(n-j)))).toList.length<=L1.length:=by rw [zcm,size_zeroCells,Df,Dx,r7];omega
 have DT:∀ ty dc,(Builtin.clear_ #[22] ty #[.slice (some ⟨b,(i+(n-j))*3,none⟩) (n-(i+(n-j))) dc]).run Tryz.prog (w.drew.setRow b L1.toArray)=.ok (.tuple #[]) ((w.drew.setRow b L1.toArray).setRow b (laid L1 ((i+(n-j))*3) (Builtin.zeroCells zv.cells (n-(i+(n-j)))).toList).toArray):=λty dc=>by
  have:=An (P:=Tryz.prog) (ty:=ty) (c:=dc) (w.drew.setRow b L1.toArray) (o:=(i+(n-j))*3) (n:=n-(i+(n-j))) Tryz.underlying22 kV hz Df Ll (by omega) (by rw [zbq,Dx,r7];omega) LR;exact this
 generalize Ba:laid L1 ((i+(n-j))*3) (Builtin.zeroCells zv.cells (n-(i+(n-j)))).toList=L2 at DT;have O8:L2.length=L1.length:=by rw [←Ba];exact iT Dy
 have W5:L2.take ((i+(n-j))*3)=xs.take (i*3)++ys:=by rw [←Ba,Ao Dy (zam _),W4]
 have oZ:iK base w (.slice (some ⟨b,0,none⟩) n c) (i+(n-j)) (xs.take (i*3)++ys) (.slice (some ⟨b,0,none⟩) (i+(n-j)) c) ((w.drew.setRow b L1.toArray).setRow b L2.toArray) :=
  ⟨⟨hlen,.inr ⟨b,c,_,rfl,AT,setRow_heap _ b _ _ 106 (0,0) Ll,by omega,by simp only [maxLen];omega,by rw [zbq,O8,Dx,r7],by rw [zcp,W5]⟩⟩,
   .inl ⟨rfl,by simp,⟨rfl,rfl,rfl,by simp,λk hk Iv=>by rw [setRow_other _ b k _ (λe=>Iv (by rw [e];rfl)),setRow_other _ b k _ (λe=>Iv (by rw [e];rfl))];rfl⟩⟩⟩
 generalize hmg:n-j=m at *;obtain rfl:j=n-m:=by omega
 have Dj:i<=n:=by omega
 have Tj:i<=c:=by omega
 have hnmc:n-m<=c:=by omega
 have hnmn:n-m<=n:=by omega
 have mixed:=lN;have hij2:i<=n-m:=by omega
 have U0:(0:Int)<=(i:Int):=by omega
 have qQ:¬ (c=i):=by omega
 have Yv:¬ (c=i+m):=by omega
 have hle:i+m<=n:=by omega
 have fh:¬ ((i:Int)=((n-m:Nat):Int)):=by omega
 by_cases VW:c=n-m
 ·subst VW;rw [zab rfl] at hf;simp only [zab] at hC;go_enter Tryz.func166,Tryz.ntmps166
  go_wp2
  go_region_law_o (refine zL rfl _ _ 22 rfl _ _ (by simp [Act.eval,Act.put]) (by simp [Act.eval,Act.put]) (hC _) ?_)
  go_wp2_with (at_builtin;refine km _ rfl _ 22 rfl _ rfl (DT _ _) ?_)
  all_goals (go_ret;exact ⟨_,rfl,oZ⟩)
 ·rw [zaa VW] at hf;simp only [zaa VW] at hC;go_enter Tryz.func166,Tryz.ntmps166
  go_wp2
  go_region_law_o (refine zL rfl _ _ 22 rfl _ _ (by simp [Act.eval,Act.put]) (by simp [Act.eval,Act.put]) (hC _) ?_)
  go_wp2_with (at_builtin;refine km _ rfl _ 22 rfl _ rfl (DT _ _) ?_)
  all_goals (go_ret;exact ⟨_,rfl,oZ⟩)
theorem xo {l r:List Range} {n0:Nat} {i j:Int} (H:ve i j l=some r) :
  aK Tryz.prog 166 [.vc 0 n0,.d (cI i),.d (cI j)] ⟨[],[⟨106,3,n0,some (l.map Range.row)⟩]⟩
   (QE (.vc 1 r.length) ⟨[],[⟨106,3,([]:List Range).length,none⟩,⟨106,3,r.length,some (r.map Range.row)⟩]⟩):=by
 obtain ⟨hk,H⟩:=ar H;cases H;intro g w base vs hinv ha;obtain ⟨x,y,z,rfl,e1,e2,e3⟩:=P6 rfl ha;obtain ⟨k0,k1,k2,k3⟩:=hk;have Lj:y=.int .i64 i:=e2.bJ;have e3':z=.int .i64 j:=e3.bJ;subst Lj;subst e3';obtain ⟨xs,s1,s2,s3⟩:=hinv.own 0 _ _ _ _ rfl;have Lh:n0=l.length:=by have:=s3.len;simpa using this.symm
 have hx:x=g.tk 0:=by
  rcases sI hinv rfl e1 with h|⟨_,h,_⟩
  ·exact h
  ·have:l=[]:=by simpa using h
   rw [this] at k2;simp at k2;omega
 subst hx;obtain ⟨i',rfl⟩:∃ q:Nat,i=(q:Int):=⟨i.toNat,by omega⟩;obtain ⟨j',rfl⟩:∃ q:Nat,j=(q:Int):=⟨j.toNat,by omega⟩;have rm:=(s3.take (k:=i') (by omega)).app (by rw [zay,s1.1];have:i'*3<=n0*3:=zcl _ (by omega);omega) (s3.drop (k:=j') (by omega));have jv:(l.map Range.row).take i'++(l.map Range.row).drop j'=(l.take i'++l.drop j').map Range.row:=by simp [List.map_take,List.map_drop]
 rw [jv] at rm;have hlen:(l.take i'++l.drop j').length=i'+(n0-j'):=by simp;omega
 obtain ⟨b,c,hv⟩:=(iS s1).2 (by omega);have DN:=s3.one s1.1;have Si:=s1;rw [hv] at Si;have hw:=Fj w Si DN (i:=i') (j:=j') (by omega) (by omega) (by omega);rw [←hv] at hw;refine hw.mono ?_;rintro e w' ⟨v',rfl,ho,hc⟩;rw [zch,zch,hlen];exact wO hinv (tk:=0) rfl rfl ho hc rm
theorem xp {l r:List Range} (H:iz l=some r):aK Tryz.prog 85 [.d (ag 3 Range.row l)] ⟨[],[]⟩ (QE (.vc 0 r.length) ⟨[],[⟨106,3,r.length,some (r.map Range.row)⟩]⟩):=by
 obtain ⟨hk,H⟩:=ar H;cases H;obtain ⟨i32,Bt,Iw,Bu,Ix⟩:=sd;refine aK.jP ?_;refine aK.enter Tryz.func85 rfl Tryz.ntmps85 rfl λS hS=>?_
 refine .F 8 rfl (.J0 Tryz.underlying22 rfl rfl λb hb=>?_);refine .E 1 rfl (.cond rfl (λhc=>?_) (λhc=>?_))
 ·have hl:l=[]:=by simpa using hb hc
  subst hl;refine .E 4 rfl (.N7 (i:=2) (e:=106) (sz:=3) rfl (.R Tryz.func85 Tryz.results85 rfl ?_));exact ⟨[],[0],rfl,rfl,rfl,rfl,rfl,rfl,rfl,rfl,.aj _⟩
 ·refine .F 3 rfl (.v (x:=.vc 0 ([]:List Range).length) (vL Range.row Tryz.underlying22 Bt Bu) rfl (.u9 (st':=⟨[],[⟨106,3,([]:List Range).length,some (([]:List Range).map Range.row)⟩]⟩) rfl (.F 1 rfl ?_)));refine .v (x:=.vc 0 (([]:List Range)++l).length) (fC (l:=[]) (l':=l) (row:=Range.row) Tryz.underlying22 Bt Iw Bu rfl (by rw [Ix];decide) rfl rfl rfl rfl (by simpa using hk)) rfl ?_;refine .u9 (st':=⟨[],[⟨106,3,(([]:List Range)++l).length,some ((([]:List Range)++l).map Range.row)⟩]⟩) rfl (.E 2 rfl (.R Tryz.func85 Tryz.results85 rfl ?_));exact ⟨[],[0],rfl,rfl,rfl,rfl,rfl,rfl,rfl,rfl,.aj _⟩
theorem pU {l r:List Range} (H:iz l=some r):aD Tryz.prog 85 [ag 3 Range.row l] (·=ag 3 Range.row r):=.of (xp H).MZ
theorem yh {l r:List Head} (H:kS l=some r):aK Tryz.prog 86 [.d (ag 4 Head.row l)] ⟨[],[]⟩ (QE (.vc 0 r.length) ⟨[],[⟨76,4,r.length,some (r.map Head.row)⟩]⟩):=by
 obtain ⟨hk,H⟩:=ar H;cases H;obtain ⟨i32,Bt,Iw,Bu,Ix⟩:=E5;refine aK.jP ?_;refine aK.enter Tryz.func86 rfl Tryz.ntmps86 rfl λS hS=>?_
 refine .F 8 rfl (.J0 Tryz.underlying24 rfl rfl λb hb=>?_);refine .E 1 rfl (.cond rfl (λhc=>?_) (λhc=>?_))
 ·have hl:l=[]:=by simpa using hb hc
  subst hl;refine .E 4 rfl (.N7 (i:=2) (e:=76) (sz:=4) rfl (.R Tryz.func86 Tryz.results86 rfl ?_));exact ⟨[],[0],rfl,rfl,rfl,rfl,rfl,rfl,rfl,rfl,.aj _⟩
 ·refine .F 3 rfl (.v (x:=.vc 0 ([]:List Head).length) (vL Head.row Tryz.underlying24 Bt Bu) rfl (.u9 (st':=⟨[],[⟨76,4,([]:List Head).length,some (([]:List Head).map Head.row)⟩]⟩) rfl (.F 1 rfl ?_)));refine .v (x:=.vc 0 (([]:List Head)++l).length) (fC (l:=[]) (l':=l) (row:=Head.row) Tryz.underlying24 Bt Iw Bu rfl (by rw [Ix];decide) rfl rfl rfl rfl (by simpa using hk)) rfl ?_;refine .u9 (st':=⟨[],[⟨76,4,(([]:List Head)++l).length,some ((([]:List Head)++l).map Head.row)⟩]⟩) rfl (.E 2 rfl (.R Tryz.func86 Tryz.results86 rfl ?_));exact ⟨[],[0],rfl,rfl,rfl,rfl,rfl,rfl,rfl,rfl,.aj _⟩
theorem vq {l r:List Head} (H:kS l=some r):aD Tryz.prog 86 [ag 4 Head.row l] (·=ag 4 Head.row r):=.of (yh H).MZ
theorem wa {l r:List ak} (H:nX l=some r):aK Tryz.prog 88 [.d (ag 4 ak.row l)] ⟨[],[]⟩ (QE (.vc 0 r.length) ⟨[],[⟨66,4,r.length,some (r.map ak.row)⟩]⟩):=by
 obtain ⟨hk,H⟩:=ar H;cases H;obtain ⟨i32,Bt,Iw,Bu,Ix⟩:=E4;refine aK.jP ?_;refine aK.enter Tryz.func88 rfl Tryz.ntmps88 rfl λS hS=>?_
 refine .F 8 rfl (.J0 Tryz.underlying28 rfl rfl λb hb=>?_);refine .E 1 rfl (.cond rfl (λhc=>?_) (λhc=>?_))
 ·have hl:l=[]:=by simpa using hb hc
  subst hl;refine .E 4 rfl (.N7 (i:=2) (e:=66) (sz:=4) rfl (.R Tryz.func88 Tryz.results88 rfl ?_));exact ⟨[],[0],rfl,rfl,rfl,rfl,rfl,rfl,rfl,rfl,.aj _⟩
 ·refine .F 3 rfl (.v (x:=.vc 0 ([]:List ak).length) (vL ak.row Tryz.underlying28 Bt Bu) rfl (.u9 (st':=⟨[],[⟨66,4,([]:List ak).length,some (([]:List ak).map ak.row)⟩]⟩) rfl (.F 1 rfl ?_)));refine .v (x:=.vc 0 (([]:List ak)++l).length) (fC (l:=[]) (l':=l) (row:=ak.row) Tryz.underlying28 Bt Iw Bu rfl (by rw [Ix];decide) rfl rfl rfl rfl (by simpa using hk)) rfl ?_;refine .u9 (st':=⟨[],[⟨66,4,(([]:List ak)++l).length,some ((([]:List ak)++l).map ak.row)⟩]⟩) rfl (.E 2 rfl (.R Tryz.func88 Tryz.results88 rfl ?_));exact ⟨[],[0],rfl,rfl,rfl,rfl,rfl,rfl,rfl,rfl,.aj _⟩
theorem DV {l r:List ak} (H:nX l=some r):aD Tryz.prog 88 [ag 4 ak.row l] (·=ag 4 ak.row r):=.of (wa H).MZ
theorem xq {l r:List aA} (H:s7 l=some r):aK Tryz.prog 87 [.d (ag 12 aA.row l)] ⟨[],[]⟩ (QE (.vc 0 r.length) ⟨[],[⟨54,12,r.length,some (r.map aA.row)⟩]⟩):=by
 obtain ⟨hk,H⟩:=ar H;cases H;obtain ⟨i32,Bt,Iw,Bu,Ix⟩:=Bh;refine aK.jP ?_;refine aK.enter Tryz.func87 rfl Tryz.ntmps87 rfl λS hS=>?_
 refine .F 8 rfl (.J0 Tryz.underlying27 rfl rfl λb hb=>?_);refine .E 1 rfl (.cond rfl (λhc=>?_) (λhc=>?_))
 ·have hl:l=[]:=by simpa using hb hc
  subst hl;refine .E 4 rfl (.N7 (i:=2) (e:=54) (sz:=12) rfl (.R Tryz.func87 Tryz.results87 rfl ?_));exact ⟨[],[0],rfl,rfl,rfl,rfl,rfl,rfl,rfl,rfl,.aj _⟩
 ·refine .F 3 rfl (.v (x:=.vc 0 ([]:List aA).length) (vL aA.row Tryz.underlying27 Bt Bu) rfl (.u9 (st':=⟨[],[⟨54,12,([]:List aA).length,some (([]:List aA).map aA.row)⟩]⟩) rfl (.F 1 rfl ?_)));refine .v (x:=.vc 0 (([]:List aA)++l).length) (fC (l:=[]) (l':=l) (row:=aA.row) Tryz.underlying27 Bt Iw Bu rfl (by rw [Ix];decide) rfl rfl rfl rfl (by simpa using hk)) rfl ?_;refine .u9 (st':=⟨[],[⟨54,12,(([]:List aA)++l).length,some ((([]:List aA)++l).map aA.row)⟩]⟩) rfl (.E 2 rfl (.R Tryz.func87 Tryz.results87 rfl ?_));exact ⟨[],[0],rfl,rfl,rfl,rfl,rfl,rfl,rfl,rfl,.aj _⟩
end Go.Proofs.YtimkfiaffohhkaaGreatDoor
namespace Go.Proofs.YtimkfiaffohhkaaGreatDoor
open Go.Shelf
def Tryz.IB:Go.Shelf.Ren:=⟨fun|6=>81|15=>129|14=>128|28=>175|29=>176|20=>167|21=>168|22=>169|23=>170|24=>171|25=>172|26=>173|27=>174|46=>195|47=>196|48=>197|49=>198|50=>199|57=>211|n=>n,fun|22=>28|24=>66|25=>135|3=>3|39=>183|0=>0|53=>227|55=>229|4=>4|46=>221|45=>220|50=>94|5=>5|9=>9|66=>242|70=>246|76=>258|77=>199|n=>n,fun|n=>n⟩
theorem Tryz.Ke:Go.Proofs.SlLaysF0.n6 Tryz.prog Tryz.IB:={
 mixed:=by kernel_rfl
 f6:=⟨Tryz.f81.name,by decide,Tryz.func81.trans (zbm some (by kernel_rfl))⟩
 f14:=⟨Tryz.f128.name,by decide,Tryz.func128.trans (zbm some (by kernel_rfl))⟩
 f15:=Tryz.func129.trans (zbm some (by kernel_rfl))
 f20:=⟨Tryz.f167.name,by decide,Tryz.func167.trans (zbm some (by kernel_rfl))⟩
 f21:=⟨Tryz.f168.name,by decide,Tryz.func168.trans (zbm some (by kernel_rfl))⟩
 f22:=⟨Tryz.f169.name,by decide,Tryz.func169.trans (zbm some (by kernel_rfl))⟩
 f23:=⟨Tryz.f170.name,by decide,Tryz.func170.trans (zbm some (by kernel_rfl))⟩
 f24:=⟨Tryz.f171.name,by decide,Tryz.func171.trans (zbm some (by kernel_rfl))⟩
 f25:=⟨Tryz.f172.name,by decide,Tryz.func172.trans (zbm some (by kernel_rfl))⟩
 f26:=⟨Tryz.f173.name,by decide,Tryz.func173.trans (zbm some (by kernel_rfl))⟩
 f27:=⟨Tryz.f174.name,by decide,Tryz.func174.trans (zbm some (by kernel_rfl))⟩
 f28:=Tryz.func175.trans (zbm some (by kernel_rfl))
 f29:=Tryz.func176.trans (zbm some (by kernel_rfl))
 f46:=⟨Tryz.f195.name,by decide,Tryz.func195.trans (zbm some (by kernel_rfl))⟩
 f47:=Tryz.func196.trans (zbm some (by kernel_rfl))
 f48:=Tryz.func197.trans (zbm some (by kernel_rfl))
 f49:=⟨Tryz.f198.name,by decide,Tryz.func198.trans (zbm some (by kernel_rfl))⟩
 f50:=⟨Tryz.f199.name,by decide,Tryz.func199.trans (zbm some (by kernel_rfl))⟩
 f57:=⟨Tryz.f211.name,by decide,Tryz.func211.trans (zbm some (by kernel_rfl))⟩
 t0:=Tryz.underlying0
 a0:=Tryz.isAgg0
 z0:=Tryz.sizeOf0
 v0:=Tryz.zeroValue0
 t3:=Tryz.underlying3
 a3:=Tryz.isAgg3
 z3:=Tryz.sizeOf3
 v3:=Tryz.zeroValue3
 t4:=Tryz.underlying4
 a4:=Tryz.isAgg4
 z4:=Tryz.sizeOf4
 v4:=Tryz.zeroValue4
 t5:=Tryz.underlying5
 a5:=Tryz.isAgg5
 z5:=Tryz.sizeOf5
 v5:=Tryz.zeroValue5
 t9:=Tryz.underlying9
 a9:=Tryz.isAgg9
 z9:=Tryz.sizeOf9
 v9:=Tryz.zeroValue9
 t22:=Tryz.underlying28
 a22:=Tryz.isAgg28
 z22:=Tryz.sizeOf28
 v22:=Tryz.zeroValue28
 t25:=Tryz.underlying135
 a25:=Tryz.isAgg135
 z25:=Tryz.sizeOf135
 v25:=Tryz.zeroValue135
 t39:=Tryz.underlying183
 a39:=Tryz.isAgg183
 z39:=Tryz.sizeOf183
 v39:=Tryz.zeroValue183
 t45:=Tryz.underlying220
 a45:=Tryz.isAgg220
 z45:=Tryz.sizeOf220
 v45:=Tryz.zeroValue220
 t46:=Tryz.underlying221
 a46:=Tryz.isAgg221
 z46:=Tryz.sizeOf221
 v46:=Tryz.zeroValue221
 t50:=Tryz.underlying94
 a50:=Tryz.isAgg94
 z50:=Tryz.sizeOf94
 v50:=Tryz.zeroValue94
 t53:=Tryz.underlying227
 a53:=Tryz.isAgg227
 z53:=Tryz.sizeOf227
 v53:=Tryz.zeroValue227
 t55:=Tryz.underlying229
 a55:=Tryz.isAgg229
 z55:=Tryz.sizeOf229
 v55:=Tryz.zeroValue229
 t66:=Tryz.underlying242
 a66:=Tryz.isAgg242
 z66:=Tryz.sizeOf242
 v66:=Tryz.zeroValue242
 t70:=Tryz.underlying246
 a70:=Tryz.isAgg246
 z70:=Tryz.sizeOf246
 v70:=Tryz.zeroValue246
 t76:=Tryz.underlying258
 a76:=Tryz.isAgg258
 z76:=Tryz.sizeOf258
 v76:=Tryz.zeroValue258
 t77:=Tryz.underlying199
 a77:=Tryz.isAgg199
 z77:=Tryz.sizeOf199
 v77:=Tryz.zeroValue199 }
def Tryz.IC:Go.Shelf.Ren:=⟨fun|4=>112|n=>n,fun|22=>23|25=>58|3=>3|4=>4|9=>9|20=>20|0=>0|n=>n,fun|n=>n⟩
theorem Tryz.Kf:Go.Proofs.Lays8.n4 Tryz.prog Tryz.IC:={
 mixed:=by kernel_rfl
 f4:=⟨Tryz.f112.name,by decide,Tryz.func112.trans (zbm some (by kernel_rfl))⟩
 t0:=Tryz.underlying0
 a0:=Tryz.isAgg0
 z0:=Tryz.sizeOf0
 v0:=Tryz.zeroValue0
 t3:=Tryz.underlying3
 a3:=Tryz.isAgg3
 z3:=Tryz.sizeOf3
 v3:=Tryz.zeroValue3
 t4:=Tryz.underlying4
 a4:=Tryz.isAgg4
 z4:=Tryz.sizeOf4
 v4:=Tryz.zeroValue4
 t9:=Tryz.underlying9
 a9:=Tryz.isAgg9
 z9:=Tryz.sizeOf9
 v9:=Tryz.zeroValue9
 t20:=Tryz.underlying20
 a20:=Tryz.isAgg20
 z20:=Tryz.sizeOf20
 v20:=Tryz.zeroValue20
 t22:=Tryz.underlying23
 a22:=Tryz.isAgg23
 z22:=Tryz.sizeOf23
 v22:=Tryz.zeroValue23 }
def Tryz.Dz:Go.Shelf.Ren:=⟨fun|156=>116|165=>153|166=>154|169=>155|240=>191|241=>192|276=>208|277=>209|n=>n,fun|31=>96|9=>9|3=>3|4=>4|0=>0|20=>20|72=>207|76=>211|70=>204|37=>205|75=>210|127=>240|164=>255|5=>5|80=>213|n=>n,fun|n=>n⟩
theorem Tryz.Nf:Go.Proofs.Lays.n156 Tryz.prog Tryz.Dz:={
 mixed:=by kernel_rfl
 f156:=Tryz.func116.trans (zbm some (by kernel_rfl))
 f165:=Tryz.func153.trans (zbm some (by kernel_rfl))
 f166:=Tryz.func154.trans (zbm some (by kernel_rfl))
 f169:=Tryz.func155.trans (zbm some (by kernel_rfl))
 f240:=Tryz.func191.trans (zbm some (by kernel_rfl))
 f241:=Tryz.func192.trans (zbm some (by kernel_rfl))
 f276:=Tryz.func208.trans (zbm some (by kernel_rfl))
 f277:=Tryz.func209.trans (zbm some (by kernel_rfl))
 t0:=Tryz.underlying0
 a0:=Tryz.isAgg0
 z0:=Tryz.sizeOf0
 v0:=Tryz.zeroValue0
 t3:=Tryz.underlying3
 a3:=Tryz.isAgg3
 z3:=Tryz.sizeOf3
 v3:=Tryz.zeroValue3
 t4:=Tryz.underlying4
 a4:=Tryz.isAgg4
 z4:=Tryz.sizeOf4
 v4:=Tryz.zeroValue4
 t9:=Tryz.underlying9
 a9:=Tryz.isAgg9
 z9:=Tryz.sizeOf9
 v9:=Tryz.zeroValue9
 t20:=Tryz.underlying20
 a20:=Tryz.isAgg20
 z20:=Tryz.sizeOf20
 v20:=Tryz.zeroValue20
 t31:=Tryz.underlying96
 a31:=Tryz.isAgg96
 z31:=Tryz.sizeOf96
 v31:=Tryz.zeroValue96
 t37:=Tryz.underlying205
 a37:=Tryz.isAgg205
 z37:=Tryz.sizeOf205
 v37:=Tryz.zeroValue205
 t70:=Tryz.underlying204
 a70:=Tryz.isAgg204
 z70:=Tryz.sizeOf204
 v70:=Tryz.zeroValue204
 t72:=Tryz.underlying207
 a72:=Tryz.isAgg207
 z72:=Tryz.sizeOf207
 v72:=Tryz.zeroValue207
 t75:=Tryz.underlying210
 a75:=Tryz.isAgg210
 z75:=Tryz.sizeOf210
 v75:=Tryz.zeroValue210
 t76:=Tryz.underlying211
 a76:=Tryz.isAgg211
 z76:=Tryz.sizeOf211
 v76:=Tryz.zeroValue211
 t127:=Tryz.underlying240
 a127:=Tryz.isAgg240
 z127:=Tryz.sizeOf240
 v127:=Tryz.zeroValue240
 t164:=Tryz.underlying255
 a164:=Tryz.isAgg255
 z164:=Tryz.sizeOf255
 v164:=Tryz.zeroValue255 }
theorem Tryz.uW:Builder.Extra Tryz.prog Tryz.Dz:={
 sizeBuilder:=by kernel_rfl
 liesBuilder:=by kernel_rfl
 t5:=Tryz.underlying5
 a5:=Tryz.isAgg5
 z5:=Tryz.sizeOf5
 v5:=Tryz.zeroValue5
 infoByte:=by kernel_rfl
 cellsByte:=by kernel_rfl
 sizeByte:=by kernel_rfl
 neB5:=by decide }
open Go.RowKit in
theorem Tryz.strings_Join_none (a:Option Addr) (c:Nat) (sep:ByteArray) (w:World) :
  Calls Tryz.prog 116 #[.slice a 0 c,.string sep] w λe w'=>e=.returned (.string ⟨#[]⟩)/\w'=w:=Any.strings_Join_none Tryz.Nf Tryz.uW a c sep w
open Go.RowKit in
theorem Tryz.strings_Join (bk o c:Nat) (xs:List ByteArray) (sep:ByteArray) (w:World) (r8:∀ (j:Nat) x,xs[j]?=some x->w.cell? ⟨bk,o+j,none⟩=some (.string x)) (Jf:bk<w.heap.size) (hN:xs.length<=140737488355328) (hcap:xs.length<=c) (hlen:(Lib.join (xs.map (·.data.toList)) sep.data.toList).length<=140737488355328) :
  Calls Tryz.prog 116 #[.slice (some ⟨bk,o,none⟩) xs.length c,.string sep] w λe w'=>e=.returned (.string ⟨(Lib.join (xs.map (·.data.toList)) sep.data.toList).toArray⟩)/\Below w.heap.size w w':=Any.strings_Join Tryz.Nf Tryz.uW bk o c xs sep w r8 Jf hN hcap hlen
def Tryz.Kg:Go.Shelf.Ren:=⟨fun|122=>83|215=>130|n=>n,fun|3=>3|4=>4|n=>n,fun|n=>n⟩
theorem Tryz.Sj:Go.Proofs.Lays.n122 Tryz.prog Tryz.Kg:={
 mixed:=by kernel_rfl
 f122:=Tryz.func83.trans (zbm some (by kernel_rfl))
 f215:=Tryz.func130.trans (zbm some (by kernel_rfl))
 t3:=Tryz.underlying3
 a3:=Tryz.isAgg3
 z3:=Tryz.sizeOf3
 v3:=Tryz.zeroValue3
 t4:=Tryz.underlying4
 a4:=Tryz.isAgg4
 z4:=Tryz.sizeOf4
 v4:=Tryz.zeroValue4 }
open Go.RowKit in
theorem Tryz.cmp_Compare_int (x y:Int) (w:World) :
  Calls Tryz.prog 83 #[.int .i64 x,.int .i64 y] w λe w'=>e=.returned (.int .i64 (Lib.compareInt x y))/\w'=w:=Any.cmp_Compare_int Tryz.Sj x y w
def Tryz.ID:Go.Shelf.Ren:=⟨fun|171=>115|243=>152|246=>190|283=>204|284=>205|285=>206|286=>207|129=>176|317=>217|318=>218|319=>219|320=>220|337=>225|338=>226|n=>n,fun|3=>3|9=>9|2=>2|4=>4|171=>251|0=>0|53=>229|37=>205|5=>5|173=>253|212=>269|51=>227|20=>20|213=>270|46=>183|232=>279|233=>280|n=>n,fun|17=>0|18=>2|19=>3|n=>n⟩
theorem Tryz.Qx:Go.Proofs.LaysM.n171 Tryz.prog Tryz.ID:={
 mixed:=by kernel_rfl
 f129:=Tryz.func176.trans (zbm some (by kernel_rfl))
 f171:=Tryz.func115.trans (zbm some (by kernel_rfl))
 f243:=Tryz.func152.trans (zbm some (by kernel_rfl))
 f246:=Tryz.func190.trans (zbm some (by kernel_rfl))
 f283:=Tryz.func204.trans (zbm some (by kernel_rfl))
 f284:=Tryz.func205.trans (zbm some (by kernel_rfl))
 f285:=Tryz.func206.trans (zbm some (by kernel_rfl))
 f286:=Tryz.func207.trans (zbm some (by kernel_rfl))
 f317:=Tryz.func217.trans (zbm some (by kernel_rfl))
 f318:=Tryz.func218.trans (zbm some (by kernel_rfl))
 f319:=Tryz.func219.trans (zbm some (by kernel_rfl))
 f320:=Tryz.func220.trans (zbm some (by kernel_rfl))
 f337:=Tryz.func225.trans (zbm some (by kernel_rfl))
 f338:=Tryz.func226.trans (zbm some (by kernel_rfl))
 t0:=Tryz.underlying0
 a0:=Tryz.isAgg0
 z0:=Tryz.sizeOf0
 v0:=Tryz.zeroValue0
 t2:=Tryz.underlying2
 a2:=Tryz.isAgg2
 z2:=Tryz.sizeOf2
 v2:=Tryz.zeroValue2
 t3:=Tryz.underlying3
 a3:=Tryz.isAgg3
 z3:=Tryz.sizeOf3
 v3:=Tryz.zeroValue3
 t4:=Tryz.underlying4
 a4:=Tryz.isAgg4
 z4:=Tryz.sizeOf4
 v4:=Tryz.zeroValue4
 t5:=Tryz.underlying5
 a5:=Tryz.isAgg5
 z5:=Tryz.sizeOf5
 v5:=Tryz.zeroValue5
 t9:=Tryz.underlying9
 a9:=Tryz.isAgg9
 z9:=Tryz.sizeOf9
 v9:=Tryz.zeroValue9
 t20:=Tryz.underlying20
 a20:=Tryz.isAgg20
 z20:=Tryz.sizeOf20
 v20:=Tryz.zeroValue20
 t37:=Tryz.underlying205
 a37:=Tryz.isAgg205
 z37:=Tryz.sizeOf205
 v37:=Tryz.zeroValue205
 t46:=Tryz.underlying183
 a46:=Tryz.isAgg183
 z46:=Tryz.sizeOf183
 v46:=Tryz.zeroValue183
 t51:=Tryz.underlying227
 a51:=Tryz.isAgg227
 z51:=Tryz.sizeOf227
 v51:=Tryz.zeroValue227
 t53:=Tryz.underlying229
 a53:=Tryz.isAgg229
 z53:=Tryz.sizeOf229
 v53:=Tryz.zeroValue229
 t171:=Tryz.underlying251
 a171:=Tryz.isAgg251
 z171:=Tryz.sizeOf251
 v171:=Tryz.zeroValue251
 t173:=Tryz.underlying253
 a173:=Tryz.isAgg253
 z173:=Tryz.sizeOf253
 v173:=Tryz.zeroValue253
 t212:=Tryz.underlying269
 a212:=Tryz.isAgg269
 z212:=Tryz.sizeOf269
 v212:=Tryz.zeroValue269
 t213:=Tryz.underlying270
 a213:=Tryz.isAgg270
 z213:=Tryz.sizeOf270
 t232:=Tryz.underlying279
 a232:=Tryz.isAgg279
 z232:=Tryz.sizeOf279
 v232:=Tryz.zeroValue279
 t233:=Tryz.underlying280
 a233:=Tryz.isAgg280
 z233:=Tryz.sizeOf280
 v233:=Tryz.zeroValue280
 g17:=by kernel_rfl
 g18:=by kernel_rfl
 g19:=by kernel_rfl
 i0:=by kernel_rfl
 i2:=by kernel_rfl
 i3:=by kernel_rfl
 i4:=by kernel_rfl
 i5:=by kernel_rfl
 i9:=by kernel_rfl
 i20:=by kernel_rfl
 i37:=by kernel_rfl
 i46:=by kernel_rfl
 i51:=by kernel_rfl
 i53:=by kernel_rfl
 i171:=by kernel_rfl
 i173:=by kernel_rfl
 i212:=by kernel_rfl
 i232:=by kernel_rfl
 i233:=by kernel_rfl
 m17:=by kernel_rfl
 m18:=by kernel_rfl
 m19:=by kernel_rfl }
open Go.RowKit Go.Sort Go.Lib in
theorem Tryz.strconv_Itoa (n:Int) (h0:-9223372036854775808<=n) (h1:n<=9223372036854775807) (w:World) (htab:Lib.TabIs Tryz.prog w "internal/strconv.uint64pow10" .u64 Lib.pow10Tab) :
  Calls Tryz.prog 115 #[.int .i64 n] w λe w'=>e=.returned (.string ⟨(Lib.itoa n).toArray⟩)/\∃ k os,w'=grow (w.drewN k) os:=Any.strconv_Itoa Tryz.Qx n h0 h1 w htab
end Go.Proofs.YtimkfiaffohhkaaGreatDoor
namespace Go.Abs
open Go.RowKit
theorem Da.one {lim:Nat->Nat} {w:World} {d:D} {vs:Array Value} (h:Da lim w [d] vs):∃ v,vs=#[v]/\dK lim w d v:=by
 obtain ⟨h1,h2⟩:=h
 match vs,h1 with
 | ⟨[v]⟩,_=>exact ⟨v,rfl,h2 0 d v rfl rfl⟩
theorem Da.two {lim:Nat->Nat} {w:World} {d e:D} {vs:Array Value} (h:Da lim w [d,e] vs):∃ v u,vs=#[v,u]/\dK lim w d v/\dK lim w e u:=by
 obtain ⟨h1,h2⟩:=h
 match vs,h1 with
 | ⟨[v,u]⟩,_=>exact ⟨v,u,rfl,h2 0 d v rfl rfl,h2 1 e u rfl rfl⟩
theorem Fk (w:World) (k:Nat) (os:Array Obj):Below w.heap.size w (Go.Sort.grow (w.drewN k) os) :=
 ⟨rfl,rfl,rfl,by simp [Go.Sort.grow],λb hb=>by
  show ((w.drewN k).heap++os)[b]?=_;rw [zda (show b<(w.drewN k).heap.size from hb)];rfl⟩
theorem aD.lib {P:Program} {f:FuncId} {args:List D} {u:Value}
  (h:∀ lim w vs,xE w.heap.size w->Da lim w args vs->Calls P f vs w λe w'=>e=.returned u/\Below w.heap.size w w'):aD P f args (·=.ex u):=by
 intro lim w vs hg ha;refine (h lim w vs hg ha).mono ?_;rintro e w' ⟨rfl,hb⟩;exact ⟨u,.ex u,lim,rfl,rfl,.ex u,⟨hb.size,λ_ _=>zam _,λb off kc _=>hb.cell (p:=⟨b,off,none⟩) kc⟩,hb,λ_ _=>rfl⟩
theorem Mh {lim:Nat->Nat} {w:World} {xs:List (List UInt8)} {v:Value} (h:dK lim w (.sl 1 (xs.map rS)) v) :
  (∃ A c,v=.slice A 0 c/\xs=[])∨∃ b off c,v=.slice (some ⟨b,off,none⟩) xs.length c/\xs.length<=c/\b<w.heap.size/\∀ (j:Nat) x,xs[j]?=some x->w.cell? ⟨b,off+j,none⟩=some (.string ⟨x.toArray⟩):=by
 generalize hr:xs.map rS=rows at h;cases h with
 | nil _ A =>
  have:xs=[]:=by simpa using hr
  exact .inl ⟨A,0,rfl,this⟩
 | sl _ _ b off c hc rm hx fc =>
  subst hr;rw [zdy] at *;by_cases h0:xs=[]
  ·subst h0;exact .inl ⟨_,c,rfl,rfl⟩
  ·refine .inr ⟨b,off,c,rfl,hc,?_,λj x hj=>?_⟩
   ·have hl:0<xs.length:=zdt.2 h0;obtain ⟨_,u,hu,_⟩:=hx 0 (by omega);exact World.block_lt_of_cell? w _ hu
   ·have Gd:=(zad.1 hj).1;obtain ⟨_,u,hu,_⟩:=hx j (by omega);have:=fc j 0 (rS x) (.ex (.string ⟨x.toArray⟩)) u (by rw [zba,hj];rfl) rfl (by rw [Nat.mul_one,zdb];exact hu);rw [hu,wF this]
end Go.Abs
namespace Go.Proofs.YtimkfiaffohhkaaGreatDoor
open Go.RowKit Go.Abs Go.Lib Go.Sort Go.Shelf
def zR (l:List ak) (i:Int):ak:=match l.find? (λr=>decide (r.index=i)) with
 | some r=>r
 | none=>⟨0,0,i,0⟩
theorem DA (l:List ak) (i:Int):(zR l i).index=i:=by
 unfold zR;split
 ·rename_i r h;simpa using List.find?_some h
 ·rfl
theorem Ho:∀ {l:List ak},(l.map (·.index)).Nodup->∀ {r:ak},r∈l->zR l r.index=r
 | x::l,hn,r,hr=>by
  rw [zap,zbs] at hn;unfold zR;rcases zav.1 hr with rfl|hr
  ·rw [List.find?_cons_of_pos (by simp)]
  ·rw [List.find?_cons_of_neg (by
    simp;intro he;exact hn.1 (by rw [he];exact zcn hr))]
   have:=Ho hn.2 hr;unfold zR at this;exact this
def zj (l:List ak) (i:Int):List Value:=ak.bR (zR l i)
theorem Fl (l:List ak) (i:Int):(zj l i).length=4:=rfl
theorem Qy (l:List ak) (i:Int):∀ v∈zj l i,v.oneCell'=true:=by
 intro v hv;simp only [zj,ak.bR,zav,zeg,or_false] at hv;rcases hv with rfl|rfl|rfl|rfl <;> rfl
theorem VX (x y:Int):ltOf (λx y:Int=>Lib.compareInt x y) x y=decide (x<y):=by
 unfold ltOf Lib.compareInt;by_cases h1:x<y
 ·simp [h1]
 ·by_cases h2:y<x <;> simp [h1,h2]
theorem swoI:SWO (ltOf λx y:Int=>Lib.compareInt x y) where
 irrefl x:=by rw [VX];simp
 trans x y z h1 h2:=by rw [VX] at *;simp at *;omega
 ntrans x y z h1 h2:=by rw [VX] at *;simp at *;omega
theorem Qz (x y:ak) (W:World):Calls Tryz.prog 82 #[.agg (ak.bR x).toArray,.agg (ak.bR y).toArray] W λe w'=>e=.returned (.int .i64 (Lib.compareInt x.index y.index))/\∃ q os',w'=grow (W.drewN q) os':=by
 have Oz:=λW'=>Tryz.cmp_Compare_int x.index y.index W'
 unfold ak.bR;generalize Lib.compareInt x.index y.index=r at Oz ⊢;go_enter Tryz.func82,Tryz.ntmps82
 go_wp2_with (go_at_call 83;refine (Oz _).mono ?_;rintro e w' ⟨rfl,rfl⟩)
 go_ret;exact ⟨rfl,0,_,by rw [alloc_eq_grow,alloc_eq_grow,grow_grow];rfl⟩
theorem QA (l:List ak) (blk off size:Nat) (w:World):CmpLays Tryz.prog 82 #[] (zj l) 4 (λx y=>Lib.compareInt x y) blk off size w:=λ_ _ _ _ x y=>by
 have:=Qz (zR l x) (zR l y);rw [DA,DA] at this;exact this _
theorem kg (f:Int->List Value) (hf:∀ i,(f i).length=4):∀ (is:List Int) (t:Nat),t<is.length*4->(is.flatMap f)[t]?=some ((f is[t / 4]!)[t % 4]!)
 | [],t,h=>by simp at h
 | a::is,t,h=>by
  rw [zeb];by_cases ht:t<4
  ·have h4:=hf a;rw [zak (by omega),show t / 4=0 from by omega,show t % 4=t from by omega];rw [zaf (by omega),zdq (f (a::is)[0]!) t (by rw [hf];omega)];rfl
  ·rw [zat (by rw [hf];omega),hf,kg f hf is (t-4) (by simp only [zag] at h;omega),show t / 4=(t-4) / 4+1 from by omega,show t % 4=(t-4) % 4 from by omega];have cZ:(t-4) / 4<is.length:=by simp only [zag] at h;omega
   rw [zdq is _ cZ,zdq (a::is) _ (by simp only [zag];omega)];rfl
theorem Fm (l:List ak) (is:List Int):(flatK (zj l) 4 is.toArray).toList=is.flatMap (zj l):=by
 have hl:(is.flatMap (zj l)).length=is.length*4:=by
  induction is with
  | nil=>rfl
  | cons a is ih=>rw [zeb,zai,ih,Fl,zag];omega
 apply zby;intro t;by_cases ht:t<is.length*4
 ·rw [kg _ (Fl l) is t ht,zbx,zbe (by simpa using ht)];have:=get_flatK (zj l) 4 is.toArray t (by simpa using ht);rw [zdq _ _ (by simpa using ht)] at this;rw [this];have cZ:t / 4<is.length:=by omega
  rw [zdq is.toArray _ (by simpa using cZ),zdq is _ cZ];simp
 ·rw [zbl (by rw [zcm,size_flatK];simpa using ht),zbl (by rw [hl];omega)]
def oY (l:List ak):List Value:=l.flatMap ak.bR
theorem yS:∀ (l:List ak),(oY l).length=l.length*4
 | []=>rfl
 | r::l=>by
  have:=yS l;unfold oY at this ⊢;rw [zeb,zai,this];simp only [ak.bR,zag,zbc];omega
theorem CP:∀ (l:List ak),(l.map ak.row).flatten=(oY l).map D.ex
 | []=>rfl
 | r::l=>by
  have:=CP l;unfold oY at this ⊢;rw [zap,zem,this,zeb,zdm];rfl
theorem Fo {l ls:List ak} (h:∀ r,r∈ls->zR l r.index=r):(ls.map (·.index)).flatMap (zj l)=oY ls:=by
 unfold oY
 induction ls with
 | nil=>rfl
 | cons r ls ih =>
  rw [zap,zeb,zeb,ih (λx hx=>h x (zal _ hx))];unfold zj;rw [h r (zao ..)]
theorem Mi {lim:Nat->Nat} {w:World} (l:List ak):dt lim w 4 l.length (l.map ak.row) (oY l):=by
 refine ⟨by simp,λr hr=>?_,λi c u hc hu=>?_⟩
 ·obtain ⟨x,_,rfl⟩:=zdh.1 hr;rfl
 ·rw [CP,zba,hu] at hc;cases hc;refine ⟨.ex u,?_⟩;have hm:=zbg hu;unfold oY at hm;obtain ⟨r,_,hv⟩:=List.mem_flatMap.1 hm;simp only [ak.bR,zav,zeg,or_false] at hv;rcases hv with rfl|rfl|rfl|rfl <;> rfl
theorem Mj {lim:Nat->Nat} {w:World} {l:List ak} {n:Nat} {xs:List Value} (h:dt lim w 4 n (l.map ak.row) xs) (hx:xs.length=n*4):xs=oY l:=by
 have hn:n=l.length:=by have:=h.len;simpa using this.symm
 apply zby;intro i;by_cases hi:i<xs.length
 ·have hf:i<(oY l).length:=by rw [yS];omega
  have:=(h.rep i (.ex (oY l)[i]) xs[i] (by rw [CP,zba,zaf hf];rfl) (zaf hi)).1;rw [zaf hi,zaf hf,wF this]
 ·rw [zbl (by omega),zbl (by rw [yS];omega)]
theorem QB {w:World} {g n:Nat} {cur:Array Value} {e:TypeId} {fr:Nat×Nat} (d:Array Value) (hb:w.heap[g]?=some (.cells cur e fr)):(putRow id (Sort.ahead w n) g 0 d).heap[g]?=some (.cells (Go.Sort.putCells id 0 d cur) e fr):=by
 simp [putRow,mapBlock,Sort.ahead,zfl,hb,onCells]
theorem OA {w:World} {g n:Nat} (d:Array Value):w.grownBy (putRow id (Sort.ahead w n) g 0 d) (some g):=by
 refine ⟨rfl,rfl,rfl,by simp,λk hk fh=>?_⟩;have:g≠k:=λe=>fh (by rw [e])
 simp [putRow,mapBlock,Sort.ahead,zfl,this]
theorem QC (cur:Array Value) (ts:List Value) (h:ts.length<=cur.size):(Go.Sort.putCells id 0 ts.toArray cur).toList.take ts.length=ts:=by
 apply zby;intro j;by_cases hj:j<ts.length
 ·rw [List.getElem?_take_of_lt hj,zbx];simp [Go.Sort.putCells,hj,show j<cur.size by omega]
 ·rw [List.getElem?_take_eq_none (by omega),zbl (by omega)]
theorem CQ (x:ak):∀ (l:List ak),(Md x l).Perm (x::l)
 | []=>.refl _
 | y::l=>by
  unfold Md;split
  ·exact .refl _
  ·exact ((CQ x l).cons y).trans (.swap _ _ _)
theorem Ay:∀ (l:List ak),(Nc l).Perm l
 | []=>.refl _
 | x::l=>(CQ x _).trans ((Ay l).cons x)
theorem Kh (x:ak):∀ {l:List ak},l.Pairwise (λa b=>a.index<=b.index)->(Md x l).Pairwise (λa b=>a.index<=b.index)
 | [],_=>by simp [Md]
 | y::l,h=>by
  have h2:=zbn.1 h;unfold Md;split
  ·rename_i hx;refine zbn.2 ⟨λz hz=>?_,h⟩;rcases zav.1 hz with rfl|hz
   ·exact hx
   ·have:=h2.1 z hz;omega
  ·rename_i hx;refine zbn.2 ⟨λz hz=>?_,Kh x h2.2⟩;rcases zav.1 ((CQ x l).mem_iff.1 hz) with rfl|hz
   ·omega
   ·exact h2.1 z hz
theorem Hp:∀ (l:List ak),(Nc l).Pairwise (λa b=>a.index<=b.index)
 | []=>.nil
 | x::l=>Kh x (Hp l)
theorem Hq:∀ {l l':List Int},l.Pairwise (·<=·)->l'.Pairwise (·<=·)->l.Perm l'->l=l'
 | [],l',_,_,p=>p.nil_eq
 | a::l,[],_,_,p=>absurd p.length_eq (by simp)
 | a::l,b::l',h,h',p=>by
  have h1:=zbn.1 h;have h2:=zbn.1 h';have Ca:a=b:=by
   have hb:b∈a::l:=p.mem_iff.2 (zao ..);have ha:a∈b::l':=p.mem_iff.1 (zao ..);rcases zav.1 hb with e|hb
   ·exact e.symm
   ·rcases zav.1 ha with e|ha
    ·exact e
    ·have:=h1.1 b hb;have:=h2.1 a ha;omega
  subst Ca;rw [Hq h1.2 h2.2 ((List.perm_cons a).1 p)]
theorem Fp {l r:List ak} {n0:Nat} (H:Bn l=some r) :
  aK Tryz.prog 81 [.vc 0 n0,.d (.ex (.func (.func 82) #[] #[]))] ⟨[],[⟨66,4,n0,some (l.map ak.row)⟩]⟩
   (QE (.d (.dN [])) ⟨[],[⟨66,4,n0,some (r.map ak.row)⟩]⟩):=by
 obtain ⟨hk,H⟩:=ar H;injection H with hr;intro g w base vs hinv ha;obtain ⟨x,y,rfl,e1,e2⟩:∃ x y,vs=#[x,y]/\bM g w _ (.vc 0 n0) x/\bM g w _ (.d (.ex (.func (.func 82) #[] #[]))) y:=by
  obtain ⟨h1,h2⟩:=ha;obtain ⟨q⟩:=vs
  match q,h1 with
  | [x,y],_=>exact ⟨x,y,rfl,h2 0 _ _ rfl rfl,h2 1 _ _ rfl rfl⟩
 have Lj:y=.func (.func 82) #[] #[]:=e2.bJ;subst Lj;obtain ⟨xs,s1,s2,s3⟩:=hinv.own 0 _ _ _ _ rfl;have Lh:n0=l.length:=by have:=s3.len;simpa using this.symm
 by_cases UX:l=[]
 ·subst UX;have Pt:r=[]:=by rw [←hr];rfl
  subst Pt;have hx:∃ A c,x=.slice A 0 c:=by
   rcases sI hinv rfl e1 with h|⟨_,_,A,h⟩
   ·obtain ⟨A,c,hv⟩:=(iS s1).1;exact ⟨A,c,by rw [h,hv,Lh];rfl⟩
   ·exact ⟨A,0,h⟩
  obtain ⟨A,c,rfl⟩:=hx;refine (AnyF.slices_SortFunc_none Tryz.Ke A c (.func (.func 82) #[] #[]) w).mono ?_;rintro e w' ⟨rfl,rfl⟩;exact ⟨_,_,_,g,rfl,⟨.aj _,rfl⟩,.d _ _ (.dN _ _ rfl (λi c u hi hu=>by simp at hu)),hinv,rl.refl _⟩
 ·have hx:x=g.tk 0:=by
   rcases sI hinv rfl e1 with h|⟨_,h,_⟩
   ·exact h
   ·exact absurd (by simpa using h) UX
  subst hx;have hlp:0<l.length:=zdt.2 UX;obtain ⟨b,c,hv⟩:=(iS s1).2 (by omega);have RR:=Mj s3 s1.1;have Si:=s1;rw [hv] at Si;rcases Si.2 with ⟨h,_⟩|⟨b',c',cur,h,AT,hg,EA,zb,yC,Dd⟩
  ·cases h
  cases h;have VY:∀ q,q∈l->zR l q.index=q:=λq hq=>Ho hk.2 hq
  have TE:(flatK (zj l) 4 (l.map (·.index)).toArray).toList=oY l:=by rw [Fm,Fo VY]
  have hd:(l.map (·.index)).toArray.size=n0:=by simp [Lh]
  have hH:HoldsK (zj l) 4 w b 0 (l.map (·.index)).toArray:=by
   intro j hj;have Je:j<(oY l).length:=by rw [←TE,zcm];exact hj
   refine ⟨?_,by simp [World.frozen?,hg]⟩;have h1:xs[j]?=some ((flatK (zj l) 4 (l.map (·.index)).toArray)[j]!):=by
    rw [RR,←TE,zbx,zdq (flatK (zj l) 4 (l.map (·.index)).toArray) j hj,zbe hj]
   have:=s1.cells (g:=b) (by rw [hv];rfl) j _ h1;simp only [Addr.add_lit,zbp] at this ⊢;exact this
  have eg:∀ args w,(callFunc 82 args).run Tryz.prog w=.ok (.enter 82 args) w:=enters_of Tryz.func82 (by kernel_rfl) rfl;have Oz:=AnyQ.slices_SortFunc_total Tryz.Ke 4 Tryz.isAgg66 Tryz.sizeOf66 (zj l) (Fl l) (Qy l) (λx y:Int=>Lib.compareInt x y) swoI 82 #[] b 0 c (l.map (·.index)).toArray w eg (QA l b 0 _ w) hH (zau.1 hg).1 (by rw [hd];omega)
   (λx y h1 h2=>by rw [VX] at h1 h2;simp at h1 h2;omega)
  change Calls Tryz.prog 81 _ _ _ at Oz;rw [hd,←hv] at Oz;refine Oz.mono ?_;rintro e w' ⟨rfl,n,os,rfl⟩;have Zg:((l.map (·.index)).toArray.toList.mergeSort λx y=>!(ltOf (λx y:Int=>Lib.compareInt x y)) y x)=r.map (·.index):=by
   refine Hq ?_ ?_ ?_
   ·have:=List.pairwise_mergeSort (le:=λx y:Int=>!(ltOf (λx y:Int=>Lib.compareInt x y)) y x) (λa b c h1 h2=>by simp only [VX,zdl,zfb] at *;omega) (λa b=>by simp only [VX,zbr,zdl,zfb];omega) (l.map (·.index)).toArray.toList
    refine this.imp (λh=>?_);rw [VX] at h;simpa using h
   ·rw [←hr];exact List.pairwise_map.2 (Hp l)
   ·refine (List.mergeSort_perm _ _).trans ?_;rw [←hr];exact ((Ay l).map _).symm
  rw [Zg];have hrp:r.Perm l:=by rw [←hr];exact Ay l
  have O6:r.length=l.length:=hrp.length_eq;have hfl2:flatK (zj l) 4 (r.map (·.index)).toArray=(oY r).toArray:=by
   apply Array.toList_inj.1;rw [Fm,Fo (λq hq=>VY q (hrp.mem_iff.1 hq))]
  unfold sortWorldK putRowK;rw [hfl2];have hfr:(oY r).length=n0*4:=by rw [yS,O6,Lh]
  have AY:(oY r).length<=cur.size:=by rw [hfr,yC];omega
  have j1:(putRow id (Sort.ahead w n) b 0 (oY r).toArray).ownsRow base 66 4 (g.tk 0) n0 (oY r):=by
   rw [hv];refine ⟨hfr,.inr ⟨b,c,_,rfl,AT,QB _ hg,EA,zb,by simp [Go.Sort.putCells,yC],?_⟩⟩;rw [←hfr];exact QC cur _ AY
  have nG:dt g.lim w 4 n0 (r.map ak.row) (oY r):=by
   have:=Mi (lim:=g.lim) (w:=w) r
   rwa [O6,←Lh] at this
  obtain ⟨g',t1,t2,t3,t4⟩:=hinv.NW (tk:=0) (x':=⟨66,4,n0,some (r.map ak.row)⟩) rfl j1 (.inl ⟨rfl,by simp [Sort.ahead],by rw [hv];exact OA _⟩)
   (λh=>by cases h) (λ_ _ _ _=>⟨rfl,zam _,λ_=>rfl⟩) (λbw h=>by cases h;exact nG)
  obtain ⟨i1,i2⟩:=t3.grow (g':=g') (Fk (putRow id (Sort.ahead w n) b 0 (oY r).toArray) 0 os) (λ_ _=>rfl) rfl rfl;exact ⟨_,_,_,g',rfl,⟨.aj _,rfl⟩,.d _ _ (.dN _ _ rfl (λi c u hi hu=>by simp at hu)),i1,((rl.refl _).step t4).step i2⟩
end Go.Proofs.YtimkfiaffohhkaaGreatDoor
namespace Go.Proofs.YtimkfiaffohhkaaGreatDoor
open Go.RowKit Go.Abs Go.Lib Go.Shelf
theorem DW {n:Int} {r:List aa} (H:Bo n=some r):aK Tryz.prog 112 [.d (.ex (.slice none 0 0)),.d (.ex (.int .i64 n))] ⟨[],[]⟩ (QE (.vc 0 r.length) ⟨[],[⟨58,12,r.length,some (r.map aa.row)⟩]⟩):=by
 obtain ⟨hk,H⟩:=ar H;cases H;obtain ⟨inf,hi,hz,hs,hb⟩:=gw;intro g w base vs hinv ha;obtain ⟨x,y,rfl,e1,e2⟩:∃ x y,vs=#[x,y]/\bM g w _ (.d (.ex (.slice none 0 0))) x/\bM g w _ (.d (.ex (.int .i64 n))) y:=by
  obtain ⟨h1,h2⟩:=ha;obtain ⟨q⟩:=vs
  match q,h1 with
  | [x,y],_=>exact ⟨x,y,rfl,h2 0 _ _ rfl rfl,h2 1 _ _ rfl rfl⟩
 have WU:x=.slice none 0 0:=e1.bJ;have Lj:y=.int .i64 n:=e2.bJ;subst WU;subst Lj;obtain ⟨k,rfl⟩:∃ k:Nat,n=(k:Int):=⟨n.toNat,by omega⟩;by_cases Oy:k=0
 ·subst Oy;refine (Any8.slices_Grow_room Tryz.Kf none 0 0 0 w (zam _) (by omega) (by omega) (by omega)).mono ?_;rintro e w' ⟨rfl,rfl⟩;obtain ⟨g',q1,q2,q3,q4,q5⟩:=hinv.sV ⟨58,12,0,some []⟩ (World.ownsRow_nil w' base _ _) (.inl ⟨rfl,rfl⟩) (λrows hr=>by cases hr;exact ⟨rfl,by simp,by simp⟩);refine ⟨_,_,_,g',rfl,⟨.aj _,rfl⟩,?_,q4,(rl.refl ⟨g,w',_,base⟩).step q5⟩;refine .vc _ _ _ (by simp) ⟨_,_,_,rfl⟩ λx' rows jL ho=>?_
  have:x'=⟨58,12,0,some []⟩:=by simpa [St.tok,zeo] using jL
  subst this;exact ⟨zam _,λ_=>.inl q1.symm⟩
 ·have fB:0<inf.size:=by rw [hs];decide
  obtain ⟨z,hzz,Df⟩:∃ z,inf.zero=some z/\z.cells.size=12:=⟨_,hz,rfl⟩;refine (Any8.slices_Grow_grow Tryz.Kf inf z hi hzz fB none 0 0 k [] w (zam _) (by omega) (by
   rw [hb];omega) (by omega) (by simp) (λ_=>rfl) (λa h=>by cases h)).mono ?_
  rintro e w' ⟨rfl,rfl⟩;have zb:grownCap w (0+k) 0 58<=maxLen:=grownCap_le_maxLen w (0+k) 0 58 (by unfold maxLen;omega);have Rx:=grownCap_ge w (0+k) 0 58;have j5:(w.drew.alloc (.cells (([]:List Value).toArray++Builtin.zeroCells z.cells (0+k-0)++Builtin.zeroCells z.cells (grownCap w (0+k) 0 58-(0+k))) 58)).ownsRow base 58 12 (.slice (some ⟨w.heap.size,0,none⟩) 0 (grownCap w (0+k) 0 58)) 0 [] :=
   ⟨by simp,.inr ⟨w.heap.size,_,_,rfl,hinv.base,heap_alloc_new w.drew _,zfg _,zb,by
    simp only [zfc,size_zeroCells,zbq,zbc,Df];generalize grownCap w (0+k) 0 58=c at Rx;omega,by simp⟩⟩
  obtain ⟨g',q1,q2,q3,q4,q5⟩:=hinv.sV ⟨58,12,0,some []⟩ j5 (.inr ⟨rfl,((Below.refl _ w).drew).alloc (zam _) _⟩) (λrows hr=>by cases hr;exact ⟨rfl,by simp,by simp⟩);refine ⟨_,_,_,g',rfl,⟨.aj _,rfl⟩,?_,q4,(rl.refl ⟨g,w,_,base⟩).step q5⟩;refine .vc _ _ _ (by simp) ⟨_,_,_,rfl⟩ λx' rows jL ho=>?_
  have:x'=⟨58,12,0,some []⟩:=by simpa [St.tok,zeo] using jL
  subst this;exact ⟨zam _,λ_=>.inl q1.symm⟩
end Go.Proofs.YtimkfiaffohhkaaGreatDoor
namespace Go.Proofs.YtimkfiaffohhkaaGreatDoor
open Go.RowKit Go.Abs
theorem VZ {w:World} (h:xE w.heap.size w):Go.Lib.TabIs Tryz.prog w "internal/strconv.uint64pow10" .u64 Go.Lib.pow10Tab:=by
 obtain ⟨_,ty,fr,h2⟩:=h.1 (0,(Go.Lib.pow10Tab.map λz=>Value.int .u64 z).toArray) (by simp [GL]);have hn:Tryz.prog.globalNamed "internal/strconv.uint64pow10" = some 0:=by kernel_rfl
 unfold Go.Lib.TabIs World.var?;rw [hn];simp only [zac];simp only at h2;rw [h2]
theorem ud {n:Int} {r:List UInt8} (H:vd n=some r):aD Tryz.prog 115 [cI n] (·=cS r):=by
 obtain ⟨h,H⟩:=ar H;cases H;refine aD.lib λlim w vs hg ha=>?_
 obtain ⟨v,rfl,hv⟩:=ha.one;rw [wF hv];refine (Tryz.strconv_Itoa n h.1 h.2 w (VZ hg)).mono ?_;rintro e w' ⟨rfl,k,os,rfl⟩;exact ⟨rfl,Fk w k os⟩
theorem QF {xs:List (List UInt8)} {sep r:List UInt8} (H:Mc xs sep=some r):aD Tryz.prog 116 [ag 1 rS xs,cS sep] (·=cS r):=by
 obtain ⟨h,H⟩:=ar H;cases H;refine aD.lib λlim w vs hg ha=>?_
 obtain ⟨v,u,rfl,hv,hu⟩:=ha.two;rw [wF hu];rcases Mh hv with ⟨A,c,rfl,rfl⟩|⟨b,off,c,rfl,hc,hb,fc⟩
 ·exact (Tryz.strings_Join_none A c ⟨sep.toArray⟩ w).mono λe w' ⟨he,hw⟩=>⟨he,hw▸Below.refl _ _⟩
 ·have hm:(xs.map λx=>(⟨x.toArray⟩:ByteArray)).map (·.data.toList)=xs:=by simp [Function.comp_def]
  have:=Tryz.strings_Join b off c (xs.map λx=>(⟨x.toArray⟩:ByteArray)) ⟨sep.toArray⟩ w (λj x hj=>by
   rw [zba] at hj;obtain ⟨y,hy,rfl⟩:=zcd.1 hj;exact fc j y hy) hb (by simp;omega) (by simpa using hc) (by rw [hm];simp;omega)
  rw [hm,zdy] at this;exact this
end Go.Proofs.YtimkfiaffohhkaaGreatDoor
namespace Go.Proofs.YtimkfiaffohhkaaGreatDoor
open Go.RowKit Go.Abs Go.Proofs.Tryz
theorem wZ (a b:bn):eI (bn.bR a) (bn.bR b)=(a==b):=by
 cases a;cases b;rw [zbu];simp [bn.bR,eI,LJ]
def rV:vM prog 114 bn:=XV bn.bR underlying114 VI (λ_=>rfl) wZ
theorem zk (a b:bF):eI (bF.bR a) (bF.bR b)=(a==b):=by
 cases a;cases b;rw [zbu];simp [bF.bR,eI,LJ]
def uX:vM prog 164 bF:=XV bF.bR underlying164 VJ (λ_=>rfl) zk
theorem DB {jS:List aa} {r:Bool} (H:tp jS=some r):aD prog 17 [ag 12 aa.row jS] (·=cB r):=by
 refine aD.bc func17 rfl ntmps17 rfl λS hS=>?_
 unfold tp at H;refine .E 9 rfl (.bK (ι:=Unit) (λ_=>[(0,.d (ag 12 aa.row jS))]) (λ_=>⟨[],[]⟩) (λs=>pf jS=some r) ?_ ?_)
 ·rintro _ H;replace H:pf jS=some r:=H;unfold pf at H;refine .A 7 [.i (jS.length:Int)] rfl (eW.n rfl rfl) (.R func17 results17 rfl ?_);cases H;exact .m rfl (.aj _)
 ·intro oq fq;refine .lp H (λbz=>[(0,.d (ag 12 aa.row jS)),(3,.d (cI bz))]) (λbz=>⟨[],[]⟩) (.k2 rfl rfl (.nil)) rfl ?_;rintro bz q1 H br;unfold mW at H;refine .A 12 [.i (jS.length:Int)] rfl ⟨rfl,rfl,eW.n rfl rfl⟩ (.ite H rfl (λH=>?_) (λH=>?_))
  ·obtain ⟨cD,dd,H⟩:=ck2 H;refine .A 22 [.d (.ro (aa.row (nth jS bz.toNat))),.i (((nth jS bz.toNat).a).length:Int),.d (.ro (aa.row (nth jS bz.toNat))),.i (((nth jS bz.toNat).b).length:Int)] rfl ⟨rfl,rfl,λhg=>aG.g (oF underlying9 rfl),rfl,rfl,rfl,λhg=>eW.ix rfl rfl rfl (dd hg),rfl,rfl,aG.g (oF underlying9 rfl),eW.ix rfl rfl rfl cD⟩ (.ite H rfl (λH=>?_) (λH=>?_))
   ·refine .E 4 rfl (.R func17 results17 rfl ?_);cases H;cases br;exact .m rfl (.aj _)
   ·obtain ⟨ep,H⟩:=ar H;refine .A 7 [.i (bz+1)] rfl (aF rfl rfl ep) ?_;cases H;exact .z br rfl rfl
  ·refine .E 1 rfl ?_;obtain ⟨q0,H9,kN⟩:=bQ H;clear H;cases kN;cases br;have H:=H9;exact .z (fq () H) rfl rfl
theorem Gr {v0:ah} {r:Bool} (H:rz v0=some r):aD prog 9 [.agg (ah.row v0)] (·=cB r):=by
 refine aD.bc func9 rfl ntmps9 rfl λS hS=>?_
 unfold rz at H;refine .A 10 [.r 0] rfl trivial (.bK (ι:=Unit) (λ_=>[(1,.ref 0 0)]) (λ_=>⟨[ah.o30 v0],[]⟩) (λs=>iU v0=some r) ?_ ?_)
 ·rintro _ H;replace H:iU v0=some r:=H;unfold iU at H;obtain ⟨y1,cM,H⟩:=ae H;obtain ⟨y2,fg,H⟩:=ae H;refine .A 39 [.i (v0.usages.length:Int),.b y1,.b y2,.i (v0.bu.length:Int),.i (v0.aM.seen.length:Int),.i (v0.aM.aT.length:Int)] rfl ⟨rfl,rfl,λhg=>DO.n rfl rfl,rfl,rfl,rfl,rfl,rfl,λhg=>yM.n rfl rfl,rfl,rfl,rfl,rfl,rfl,λhg=>Lk.n rfl rfl,rfl,rfl,rfl,λhg=>av (en 0 rfl) rfl rfl (DB (bd fg hg)),rfl,rfl,rfl,rfl,λhg=>av (en 0 rfl) rfl rfl (DB (bd cM hg)),rfl,rfl,Cq.n rfl rfl⟩ (.R func9 results9 rfl ?_);cases H;exact .m rfl (.aj _)
 ·intro oq fq;refine .lp H (λbL=>[(1,.ref 0 0),(3,.d (cI bL))]) (λbL=>⟨[ah.o30 v0],[]⟩) (.k2 rfl rfl (.nil)) rfl ?_;rintro bL q1 H br;unfold kn at H;refine .A 13 [.i (v0.usages.length:Int)] rfl ⟨rfl,rfl,Cq.n rfl rfl⟩ (.ite H rfl (λH=>?_) (λH=>?_))
  ·obtain ⟨cD,dd,H⟩:=ck2 H;refine .A 24 [.d (.ro (aA.row (nth v0.usages bL.toNat))),.i (((nth v0.usages bL.toNat).a).length:Int),.d (.ro (aA.row (nth v0.usages bL.toNat))),.i (((nth v0.usages bL.toNat).b).length:Int)] rfl ⟨rfl,rfl,λhg=>aG.g (oF underlying9 rfl),rfl,rfl,rfl,λhg=>Cq.ix rfl rfl rfl (dd hg),rfl,rfl,rfl,aG.g (oF underlying9 rfl),Cq.ix rfl rfl rfl cD⟩ (.ite H rfl (λH=>?_) (λH=>?_))
   ·refine .E 4 rfl (.R func9 results9 rfl ?_);cases H;cases br;exact .m rfl (.aj _)
   ·obtain ⟨ep,H⟩:=ar H;refine .A 7 [.i (bL+1)] rfl (aF rfl rfl ep) ?_;cases H;exact .z br rfl rfl
  ·refine .E 1 rfl ?_;obtain ⟨q0,H9,kN⟩:=bQ H;clear H;cases kN;cases br;have H:=H9;exact .z (fq () H) rfl rfl
theorem kO {Iq:Bool} {r:(List Event)} (H:pg Iq=some r):aD prog 30 [cB Iq] (·=ag 7 Event.row r):=by
 obtain ⟨i79,OB,OC,Yw,hb79⟩:=Tv;refine aD.bc func30 rfl ntmps30 rfl λS hS=>?_
 unfold pg at H;refine .A 17 [.d (.agg (Event.row kq11)),.d (.agg (Event.row kq5)),.d (.agg (Event.row kq1)),.n (.cE 7 (([kq11,kq5,kq1]:List Event).map Event.row) 0) ⟨79,7,([kq11,kq5,kq1]:List Event).length,none⟩] rfl ⟨.e (zH (n:=3) underlying36 OB Yw OC rfl rfl rfl rfl rfl) rfl,aG.g (bo M9 OB OC rfl rfl),aG.g (bo M9 OB OC rfl rfl),aG.g (bo M9 OB OC rfl rfl)⟩ (.ite H rfl (λH=>?_) (λH=>?_))
 ·obtain ⟨cD,H⟩:=ar H;refine .A 12 [.d (.agg (Event.row kq2)),.d (ag 7 Event.row ([kq2]:List Event)),.a 0 79 7 Event.row (([kq11,kq5,kq1]:List Event)++([kq2]:List Event))] rfl ⟨Ma.a rfl rfl rfl rfl cD,aV underlying36 OB Yw OC rfl rfl rfl rfl rfl,aG.g (bo M9 OB OC rfl rfl)⟩ (.R func30 results30 rfl ?_);cases H;exact .m rfl (.cE _ _ _)
 ·refine .E 6 rfl (.R func30 results30 rfl ?_);cases H;exact .m rfl (.cE _ _ _)
theorem CR {gj:Batch} {r:Head} (H:tM gj=some r):aD prog 124 [.agg (Batch.row gj)] (·=.agg (Head.row r)):=by
 obtain ⟨i76,Fq,Ki,IE,QG⟩:=E5;refine aD.bc func124 rfl ntmps124 rfl λS hS=>?_
 unfold tM at H;refine .A 19 [.r 0,.r 1,.i (gj.records.length:Int),.d (.agg (Head.row (⟨gj.source,gj.number,gj.format,(gj.records.length:Int)⟩:Head)))] rfl ⟨aG.g (bo Tz Fq Ki rfl rfl),eW.n rfl rfl⟩ (.R func124 results124 rfl ?_);cases H;exact .m rfl (.aj _)
theorem nq {zh Ir Is:Int} {r:Bool} (H:ko zh Ir Is=some r):aD prog 163 [cI zh,cI Ir,cI Is] (·=cB r):=by
 refine aD.bc func163 rfl ntmps163 rfl λS hS=>?_
 unfold ko at H;refine .A 16 [] rfl ⟨rfl,rfl,rfl⟩ (.R func163 results163 rfl ?_);cases H;exact .m rfl (.aj _)
theorem zl {VL:Head} {r:Int} (H:ph VL=some r):aD prog 123 [.agg (Head.row VL)] (·=cI r):=by
 refine aD.bc func123 rfl ntmps123 rfl λS hS=>?_
 unfold ph at H;obtain ⟨y1,cM,H⟩:=ae H;obtain ⟨y2,fg,H⟩:=ae H;refine .A 21 [.r 0,.b y1,.b y2] rfl ⟨rfl,rfl,λhg=>av (en 1 rfl) rfl rfl (nq (bd fg hg)),rfl,rfl,av (en 1 rfl) rfl rfl (nq cM)⟩ (.ite H rfl (λH=>?_) (λH=>?_))
 ·refine .E 4 rfl (.R func123 results123 rfl ?_);cases H;exact .m rfl (.aj _)
 ·obtain ⟨y3,iP,H⟩:=ae H;refine .A 8 [.b y3] rfl (av (en 1 rfl) rfl rfl (nq iP)) (.ite H rfl (λH=>?_) (λH=>?_))
  ·refine .E 4 rfl (.R func123 results123 rfl ?_);cases H;exact .m rfl (.aj _)
  ·obtain ⟨y4,nC,H⟩:=ae H;refine .A 8 [.b y4] rfl (av (en 1 rfl) rfl rfl (nq nC)) (.ite H rfl (λH=>?_) (λH=>?_))
   ·refine .E 4 rfl (.R func123 results123 rfl ?_);cases H;exact .m rfl (.aj _)
   ·refine .E 6 rfl (.R func123 results123 rfl ?_);cases H;exact .m rfl (.aj _)
theorem eU {zh Ir Is:Int} {r:Bool} (H:dS zh Ir Is=some r):aD prog 150 [cI zh,cI Ir,cI Is] (·=cB r):=by
 refine aD.bc func150 rfl ntmps150 rfl λS hS=>?_
 unfold dS at H;refine .A 16 [] rfl ⟨rfl,rfl,rfl⟩ (.R func150 results150 rfl ?_);cases H;exact .m rfl (.aj _)
theorem CS {Se:UInt8} {r:Bool} (H:pj Se=some r):aD prog 189 [XM Se] (·=cB r):=by
 refine aD.bc func189 rfl ntmps189 rfl λS hS=>?_
 unfold pj at H;refine .A 14 [.b (decide (Se>=48)),.b (decide (Se<=57))] rfl ⟨rfl,λhg=>aG.g (Ur (a:=Se) (b:=57) rfl rfl),rfl,aG.g (Us (a:=Se) (b:=48) rfl rfl)⟩ (.R func189 results189 rfl ?_);cases H;exact .m rfl (.aj _)
theorem wc {bU:List UInt8} {r:Bool} (H:kp bU=some r):aD prog 151 [cS bU] (·=cB r):=by
 refine aD.bc func151 rfl ntmps151 rfl λS hS=>?_
 unfold kp at H;refine .A 11 [.i (bU.length:Int)] rfl (aG.g (oF underlying9 rfl)) (.bK (ι:=Unit) (λ_=>[(0,.d (cS bU))]) (λ_=>⟨[],[]⟩) (λs=>jw bU=some r) ?_ ?_)
 ·rintro _ H;replace H:jw bU=some r:=H;unfold jw at H;refine .A 12 [.i (bU.length:Int),.i (bU.length:Int)] rfl ⟨rfl,rfl,λhg=>aG.g (oF underlying9 rfl),rfl,aG.g (oF underlying9 rfl)⟩ (.R func151 results151 rfl ?_);cases H;exact .m rfl (.aj _)
 ·intro oq fq;refine .lp H (λp8=>[(0,.d (cS bU)),(5,.d (cI (bU.length:Int))),(6,.d (cI p8))]) (λp8=>⟨[],[]⟩) (.k3 rfl rfl rfl (.nil)) rfl ?_;rintro p8 q1 H br;unfold lS at H;refine .E 5 rfl (.ite H rfl (λH=>?_) (λH=>?_))
  ·obtain ⟨cD,H⟩:=ar H;obtain ⟨y1,cM,H⟩:=ae H;refine .A 16 [.c (nth bU p8.toNat),.b y1] rfl ⟨av (en 2 rfl) rfl rfl (CS cM),aG.g (nT (i:=p8) underlying9 rfl rfl cD)⟩ (.ite H rfl (λH=>?_) (λH=>?_))
   ·refine .E 4 rfl (.R func151 results151 rfl ?_);cases H;cases br;exact .m rfl (.aj _)
   ·obtain ⟨dd,H⟩:=ar H;refine .A 6 [.i (p8+1)] rfl (aF rfl rfl dd) ?_;cases H;exact .z br rfl rfl
  ·refine .E 1 rfl ?_;obtain ⟨q0,H9,kN⟩:=bQ H;clear H;cases kN;cases br;have H:=H9;exact .z (fq () H) rfl rfl
theorem Bv {v0:aa} {r:Int} (H:lB v0=some r):aD prog 114 [.agg (aa.row v0)] (·=cI r):=by
 refine aD.bc func114 rfl ntmps114 rfl λS hS=>?_
 unfold lB at H;refine .A 21 [.r 0] rfl ⟨rfl,rfl,rfl⟩ (.iv (ι:=Int) (λCs=>[(1,.ref 0 0),(3,.d (cB ((v0.kind==3) || (v0.kind==4)))),(4,.d (cI Cs))]) (λCs=>⟨[aa.o58 v0],[]⟩) (λs=>fz v0 s=some r) ?_ ?_)
 ·rintro Cs H;replace H:fz v0 Cs=some r:=H;unfold fz at H;obtain ⟨y1,cM,H⟩:=ae H;obtain ⟨y2,fg,H⟩:=ae H;refine .A 16 [.b y1,.b y2] rfl ⟨rfl,rfl,λhg=>av (en 3 rfl) rfl rfl (eU (bd fg hg)),rfl,rfl,av (en 3 rfl) rfl rfl (eU cM)⟩ (.ite H rfl (λH=>?_) (λH=>?_))
  ·refine .E 4 rfl (.R func114 results114 rfl ?_);cases H;exact .m rfl (.aj _)
  ·obtain ⟨y3,iP,H⟩:=ae H;refine .A 8 [.b y3] rfl (av (en 3 rfl) rfl rfl (eU iP)) (.ite H rfl (λH=>?_) (λH=>?_))
   ·refine .E 4 rfl (.R func114 results114 rfl ?_);cases H;exact .m rfl (.aj _)
   ·obtain ⟨y4,nC,H⟩:=ae H;obtain ⟨y5,uA,H⟩:=ae H;refine .B 17 [.b y4,.b y5] rfl ⟨rfl,rfl,rfl,rfl,rfl,λhg=>av (en 4 rfl) rfl rfl (wc (bd uA hg)),rfl,rfl,av (en 4 rfl) rfl rfl (wc nC)⟩ (.gZ (env':=[(44,_),(47,_)]) rfl rfl rfl ⟨.inr (.inl rfl),⟨.inr (.inr ⟨_,_,rfl,rfl⟩),trivial⟩⟩ rfl (λhg=>aG.g (dP rfl rfl rfl)) (.B 1 [] rfl rfl (.gZ (env':=[(42,_),(49,_)]) rfl rfl rfl ⟨.inr (.inl rfl),⟨.inr (.inr ⟨_,_,rfl,rfl⟩),trivial⟩⟩ rfl (λhg=>aG.g (dP rfl rfl rfl)) (.A 3 [] rfl rfl (.ite H rfl (λH=>?_) (λH=>?_))))))
    ·refine .E 4 rfl (.R func114 results114 rfl ?_);cases H;exact .m rfl (.aj _)
    ·obtain ⟨y6,Bw,H⟩:=ae H;refine .A 8 [.b y6] rfl (av (en 3 rfl) rfl rfl (eU Bw)) (.ite H rfl (λH=>?_) (λH=>?_))
     ·refine .E 4 rfl (.R func114 results114 rfl ?_);cases H;exact .m rfl (.aj _)
     ·obtain ⟨y7,Ng,H⟩:=ae H;refine .A 9 [.b y7] rfl (av (en 3 rfl) rfl rfl (eU Ng)) (.ite H rfl (λH=>?_) (λH=>?_))
      ·refine .E 4 rfl (.R func114 results114 rfl ?_);cases H;exact .m rfl (.aj _)
      ·obtain ⟨cD,H⟩:=ar H;refine .A 15 [.i (v0.start+v0.cJ)] rfl ⟨rfl,rfl,λhg=>aF rfl rfl (cD hg),rfl,rfl,rfl,rfl⟩ (.ite H rfl (λH=>?_) (λH=>?_))
       ·refine .E 4 rfl (.R func114 results114 rfl ?_);cases H;exact .m rfl (.aj _)
       ·obtain ⟨y8,O9,H⟩:=ae H;obtain ⟨y9,Sk,H⟩:=ae H;refine .A 14 [.b y8,.b y9] rfl ⟨rfl,rfl,λhg=>av (en 3 rfl) rfl rfl (eU (bd Sk hg)),rfl,rfl,av (en 3 rfl) rfl rfl (eU O9)⟩ (.ite H rfl (λH=>?_) (λH=>?_))
        ·refine .E 4 rfl (.R func114 results114 rfl ?_);cases H;exact .m rfl (.aj _)
        ·refine .B 16 [.b ((v0.part==0) != (v0.call==0))] rfl ⟨rfl,rfl,rfl,rfl,aG.g (Ex rfl underlying4 rfl)⟩ (.gZ (env':=[(97,_),(100,_)]) rfl rfl rfl ⟨.inr (.inl rfl),⟨.inr (.inr ⟨_,_,rfl,rfl⟩),trivial⟩⟩ rfl (λhg=>aG.g (dP rfl rfl rfl)) (.A 3 [] rfl rfl (.ite H rfl (λH=>?_) (λH=>?_))))
         ·refine .E 4 rfl (.R func114 results114 rfl ?_);cases H;exact .m rfl (.aj _)
         ·obtain ⟨Ql,QH,H⟩:=ae H;refine .A 8 [.b Ql] rfl (av (en 3 rfl) rfl rfl (eU QH)) (.ite H rfl (λH=>?_) (λH=>?_))
          ·refine .E 4 rfl (.R func114 results114 rfl ?_);cases H;exact .m rfl (.aj _)
          ·refine .A 11 [] rfl ⟨rfl,rfl,rfl⟩ (.ite H rfl (λH=>?_) (λH=>?_))
           ·refine .E 4 rfl (.R func114 results114 rfl ?_);cases H;exact .m rfl (.aj _)
           ·refine .E 6 rfl (.R func114 results114 rfl ?_);cases H;exact .m rfl (.aj _)
 ·intro oq;refine .E 6 rfl (.ite H rfl (λH=>?_) (λH=>?_))
  ·exact .E 3 rfl (.z (oq 604800 H) rfl rfl)
  ·exact .E 1 rfl (.z (oq 1099511627776 H) rfl rfl)
theorem ue {v0:aa} {r:(List UInt8)×Int} (H:fD v0=some r):aD prog 72 [.agg (aa.row v0)] (·=.dN [cS r.1,cI r.2]):=by
 obtain ⟨i9,Jj,OD,Jk,Yx⟩:=Ot;refine aD.bc func72 rfl ntmps72 rfl λS hS=>?_
 unfold fD at H;obtain ⟨y1,cM,H⟩:=ae H;refine .A 18 [.r 0,.i y1] rfl (av (en 5 rfl) rfl rfl (Bv cM)) (.ite H rfl (λH=>?_) (λH=>?_))
 ·refine .E 6 rfl (.R func72 results72 rfl ?_);cases H;exact .m rfl (.j6 rfl)
 ·refine .E 11 rfl (.iv (ι:=List UInt8) (λsf=>[(1,.ref 0 0),(5,.d (.ex (.func (.func 115) #[] #[]))),(6,.d (cS sf))]) (λsf=>⟨[aa.o58 v0],[]⟩) (λs=>fb v0 s=some r) ?_ ?_)
  ·rintro sf H;replace H:fb v0 sf=some r:=H;unfold fb at H;obtain ⟨cD,dd,H⟩:=ck2 H;obtain ⟨y2,fg,H⟩:=ae H;obtain ⟨y3,iP,H⟩:=ae H;obtain ⟨y4,nC,H⟩:=ae H;obtain ⟨y5,uA,H⟩:=ae H;refine let z0:=(([118,116,100,99]:List UInt8).take v0.kind.toNat);.A 31 [.p 25,.i (v0.kind-1),.s (z0.drop (v0.kind-1).toNat),.s y2,.s y3,.s y4,.s y5,.n (.cE 1 (([z0.drop (v0.kind-1).toNat,y2,y3,v0.a,sf,y4,y5]:List (List UInt8)).map rS) 0) (Dt ([z0.drop (v0.kind-1).toNat,y2,y3,v0.a,sf,y4,y5]:List (List UInt8)).length)] rfl ⟨.e (zH (n:=7) underlying96 Jj Jk OD rfl rfl rfl rfl rfl) rfl,sZ (en 6 rfl) rfl rfl rfl (ud uA),sZ (en 6 rfl) rfl rfl rfl (ud nC),sZ (en 6 rfl) rfl rfl rfl (ud iP),sZ (en 6 rfl) rfl rfl rfl (ud fg),aG.g (PJ underlying9 rfl rfl rfl dd),gB rfl rfl cD,(show cw _ _=true by kernel_rfl)⟩ ?_;refine .iv (ι:=List (List UInt8)) (λwR=>[(1,.ref 0 0),(5,.d (.ex (.func (.func 115) #[] #[]))),(7,.cE 1 (wR.map rS) 0)]) (λwR=>⟨[aa.o58 v0],[Dt wR.length]⟩) (λs=>ez v0 s=some r) ?_ ?_
   ·rintro wR H;replace H:ez v0 wR=some r:=H;unfold ez at H;refine .iv (ι:=List (List UInt8)) (λMe=>[(7,.cE 1 (Me.map rS) 0)]) (λMe=>⟨[aa.o58 v0],[Dt Me.length]⟩) (λs=>fa s=some r) ?_ ?_
    ·rintro Me H;replace H:fa Me=some r:=H;unfold fa at H;obtain ⟨y6,Bw,H⟩:=ae H;refine .A 7 [.s y6] rfl (av (en 7 rfl) rfl rfl (QF Bw)) (.R func72 results72 rfl ?_);cases H;exact .m rfl (.j6 rfl)
    ·intro QI;refine .E 6 rfl (.ite H rfl (λH=>?_) (λH=>?_))
     ·refine .E 4 rfl (.iv (ι:=List UInt8) (λFc=>[(1,.ref 0 0),(5,.d (.ex (.func (.func 115) #[] #[]))),(7,.cE 1 (wR.map rS) 0),(8,.d (cS Fc))]) (λFc=>⟨[aa.o58 v0],[Dt wR.length]⟩) (λs=>fW v0 wR s=some r) ?_ ?_)
      ·rintro Fc H;replace H:fW v0 wR Fc=some r:=H;unfold fW at H;obtain ⟨y7,Ng,H⟩:=ae H;obtain ⟨ep,H⟩:=ar H;exact .A 11 [.s y7,.d (ag 1 rS ([Fc,y7]:List (List UInt8))),.a 0 9 1 rS (wR++([Fc,y7]:List (List UInt8)))] rfl ⟨DP.a rfl rfl rfl rfl ep,iD (n:=2) (rows:=([Fc,y7]:List (List UInt8)).map rS) underlying96 Jj Jk OD rfl rfl rfl rfl rfl,sZ (en 6 rfl) rfl rfl rfl (ud Ng)⟩ (.z (QI (wR++([Fc,y7]:List (List UInt8))) H) rfl rfl)
      ·intro W6;refine .E 5 rfl (.ite H rfl (λH=>?_) (λH=>?_))
       ·exact .E 3 rfl (.z (W6 ([105,110]:List UInt8) H) rfl rfl)
       ·exact .E 1 rfl (.z (W6 ([111,117,116]:List UInt8) H) rfl rfl)
     ·exact .E 1 rfl (.z (QI wR H) rfl rfl)
   ·intro Ek;refine .E 6 rfl (.ite H rfl (λH=>?_) (λH=>?_))
    ·obtain ⟨y8,O9,H⟩:=ae H;obtain ⟨y9,Sk,H⟩:=ae H;obtain ⟨gA,H⟩:=ar H;refine .A 21 [.p 10,.s y8,.s y9,.d (ag 1 rS ([([112,97,114,116]:List UInt8),y8,y9]:List (List UInt8))),.a 0 9 1 rS (([(([118,116,100,99]:List UInt8).take v0.kind.toNat).drop (v0.kind-1).toNat,y2,y3,v0.a,sf,y4,y5]:List (List UInt8))++([([112,97,114,116]:List UInt8),y8,y9]:List (List UInt8)))] rfl ⟨DP.a rfl rfl rfl rfl gA,iD (n:=3) (rows:=([([112,97,114,116]:List UInt8),y8,y9]:List (List UInt8)).map rS) underlying96 Jj Jk OD rfl rfl rfl rfl rfl,sZ (en 6 rfl) rfl rfl rfl (ud Sk),sZ (en 6 rfl) rfl rfl rfl (ud O9),(show cw _ _=true by kernel_rfl)⟩ (.ite H rfl (λH=>?_) (λH=>?_))
     ·obtain ⟨jI,H⟩:=ar H;exact .A 6 [.d (ag 1 rS ([([108,97,115,116]:List UInt8)]:List (List UInt8))),.a 0 9 1 rS ((([(([118,116,100,99]:List UInt8).take v0.kind.toNat).drop (v0.kind-1).toNat,y2,y3,v0.a,sf,y4,y5]:List (List UInt8))++([([112,97,114,116]:List UInt8),y8,y9]:List (List UInt8)))++([([108,97,115,116]:List UInt8)]:List (List UInt8)))] rfl ⟨DP.a rfl rfl rfl rfl jI,aV underlying96 Jj Jk OD rfl rfl rfl rfl rfl⟩ (.z (Ek ((([(([118,116,100,99]:List UInt8).take v0.kind.toNat).drop (v0.kind-1).toNat,y2,y3,v0.a,sf,y4,y5]:List (List UInt8))++([([112,97,114,116]:List UInt8),y8,y9]:List (List UInt8)))++([([108,97,115,116]:List UInt8)]:List (List UInt8))) H) rfl rfl)
     ·exact .E 1 rfl (.z (Ek (([(([118,116,100,99]:List UInt8).take v0.kind.toNat).drop (v0.kind-1).toNat,y2,y3,v0.a,sf,y4,y5]:List (List UInt8))++([([112,97,114,116]:List UInt8),y8,y9]:List (List UInt8))) H) rfl rfl)
    ·exact .E 1 rfl (.z (Ek ([(([118,116,100,99]:List UInt8).take v0.kind.toNat).drop (v0.kind-1).toNat,y2,y3,v0.a,sf,y4,y5]:List (List UInt8)) H) rfl rfl)
  ·intro oq;refine .E 5 rfl (.ite H rfl (λH=>?_) (λH=>?_))
   ·exact .E 3 rfl (.z (oq ([45]:List UInt8) H) rfl rfl)
   ·exact .E 1 rfl (.z (oq v0.b H) rfl rfl)
theorem DX {gj:Batch} {r:Int} (H:vf gj=some r):aD prog 76 [.agg (Batch.row gj)] (·=cI r):=by
 refine aD.bc func76 rfl ntmps76 rfl λS hS=>?_
 unfold vf at H;obtain ⟨y1,cM,H⟩:=ae H;obtain ⟨y2,fg,H⟩:=ae H;refine .A 18 [.r 0,.d (.agg (Head.row y1)),.i y2] rfl ⟨av (en 8 rfl) rfl rfl (zl fg),av (en 9 rfl) rfl rfl (CR cM)⟩ (.ite H rfl (λH=>?_) (λH=>?_))
 ·refine .E 5 rfl (.R func76 results76 rfl ?_);cases H;exact .m rfl (.aj _)
 ·refine .A 10 [.i (gj.records.length:Int)] rfl (eW.n rfl rfl) (.lp H (λvR=>[(1,.ref 0 0),(15,.d (ag 12 aa.row gj.records)),(16,.d (cI (gj.records.length:Int))),(17,.d (cI vR))]) (λvR=>⟨[Batch.o38 gj],[]⟩) (.k4 rfl rfl rfl rfl (.nil)) rfl ?_);rintro vR q1 H br;unfold vQ at H;refine .E 5 rfl (.ite H rfl (λH=>?_) (λH=>?_))
  ·obtain ⟨cD,H⟩:=ar H;obtain ⟨y3,iP,H⟩:=ae H;refine .A 26 [.d (.ro (aa.row (nth gj.records vR.toNat))),.r 1,.d (.dN [cS y3.1,cI y3.2])] rfl ⟨av (en 10 rfl) rfl rfl (ue iP),eW.ix rfl rfl rfl cD⟩ (.ite H rfl (λH=>?_) (λH=>?_))
   ·refine .E 5 rfl (.R func76 results76 rfl ?_);cases H;cases br;exact .m rfl (.aj _)
   ·refine .E 9 rfl (.ite H rfl (λH=>?_) (λH=>?_))
    ·refine .E 4 rfl (.R func76 results76 rfl ?_);cases H;cases br;exact .m rfl (.aj _)
    ·obtain ⟨dd,H⟩:=ar H;refine .A 6 [.i (vR+1)] rfl (aF rfl rfl dd) ?_;cases H;exact .t 1 0 br rfl rfl rfl rfl rfl hS rfl
  ·refine .E 5 rfl (.R func76 results76 rfl ?_);cases H;cases br;exact .m rfl (.aj _)
theorem sy {bA:aH} {bS r:Int} (H:iG bA bS=some r):aD prog 77 [.agg (aH.row bA),cI bS] (·=cI r):=by
 refine aD.bc func77 rfl ntmps77 rfl λS hS=>?_
 unfold iG at H;refine .A 15 [.r 0] rfl ⟨rfl,rfl⟩ (.ite H rfl (λH=>?_) (λH=>?_))
 ·refine .E 4 rfl (.R func77 results77 rfl ?_);cases H;exact .m rfl (.aj _)
 ·obtain ⟨cD,H⟩:=ar H;refine .A 11 [.i (bA.aT.length:Int),.i ((bA.aT.length:Int) - 1)] rfl ⟨gB rfl rfl cD,DO.n rfl rfl⟩ (.lp H (λaE=>[(1,.d (cI bS)),(2,.ref 0 0),(5,.d (cI aE))]) (λaE=>⟨[aH.o26 bA],[]⟩) (.k3 rfl rfl rfl (.nil)) rfl ?_);rintro aE q1 H br;unfold qn at H;refine .E 6 rfl (.ite H rfl (λH=>?_) (λH=>?_))
  ·obtain ⟨dd,H⟩:=ar H;refine .A 14 [.d (.ro (Head.row (nth bA.aT aE.toNat)))] rfl (DO.ix rfl rfl rfl dd) (.ite H rfl (λH=>?_) (λH=>?_))
   ·obtain ⟨ep,gA,H⟩:=ck2 H;refine .A 11 [.d (.ro (Head.row (nth bA.aT aE.toNat))),.i (((nth bA.aT aE.toNat).number)+1)] rfl ⟨aF rfl rfl gA,DO.ix rfl rfl rfl ep⟩ (.R func77 results77 rfl ?_);cases H;cases br;exact .m rfl (.aj _)
   ·obtain ⟨jI,H⟩:=ar H;refine .A 7 [.i (aE-1)] rfl (gB rfl rfl jI) ?_;cases H;exact .z br rfl rfl
  ·refine .E 5 rfl (.R func77 results77 rfl ?_);cases H;cases br;exact .m rfl (.aj _)
theorem zm {nv:aa} {Jh:gC} {r:Int} (H:pn nv Jh=some r):aD prog 125 [.agg (aa.row nv),.agg (gC.row Jh)] (·=cI r):=by
 refine aD.bc func125 rfl ntmps125 rfl λS hS=>?_
 unfold pn at H;refine .A 22 [.r 0,.r 1] rfl ⟨rfl,rfl,rfl,rfl,rfl⟩ (.ite H rfl (λH=>?_) (λH=>?_))
 ·refine .E 4 rfl (.R func125 results125 rfl ?_);cases H;exact .m rfl (.aj _)
 ·refine .E 5 rfl (.R func125 results125 rfl ?_);cases H;exact .m rfl (.aj _)
theorem Bx {bA r:aH} (H:oA bA=some r):aD prog 79 [.agg (aH.row bA)] (·=.agg (aH.row r)):=by
 obtain ⟨i26,zn,zo,Mk,Ml⟩:=Dr;refine aD.bc func79 rfl ntmps79 rfl λS hS=>?_
 unfold oA at H;obtain ⟨y1,cM,H⟩:=ae H;obtain ⟨y2,fg,H⟩:=ae H;obtain ⟨y3,iP,H⟩:=ae H;refine .A 20 [.r 0,.r 1,.p 10,.d (ag 3 Range.row y1),.d (ag 12 aa.row y2),.d (ag 4 Head.row y3),.d (.agg (aH.row (⟨y1,y2,y3⟩:aH)))] rfl ⟨aG.g (bo Bl zn zo rfl rfl),av (en 12 rfl) rfl rfl (vq iP),av (en 13 rfl) rfl rfl (lG fg),av (en 14 rfl) rfl rfl (pU cM),(show cw _ _=true by kernel_rfl)⟩ (.R func79 results79 rfl ?_);cases H;exact .m rfl (.aj _)
end Go.Proofs.YtimkfiaffohhkaaGreatDoor
