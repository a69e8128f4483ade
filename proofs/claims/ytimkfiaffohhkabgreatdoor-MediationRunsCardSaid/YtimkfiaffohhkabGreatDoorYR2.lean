/- Own. -/
import Derived.Test.YtimkfiaffohhkabGreatDoorYR1
import Derived.Lib.ItoaNum
import Derived.Lib.Join
import Derived.Shelf.Strings.Builder1
import Derived.Shelf.Strings.Builder2
import Derived.Shelf.Strings.OnBuilder
import Derived.Shelf.Small.Bits
import Derived.Shelf.Small.Wraps
import Derived.Shelf.Strconv.Itoa0
import Derived.Shelf.Strconv.Itoa1
import Derived.Shelf.LaysM
import Derived.Shelf.Strconv.Itoa2
import Derived.Shelf.Strconv.Itoa3
import Derived.Ground.Names2Prog
import Derived.Shelf.Slices.SearchI
import Derived.Shelf.SlGeneric
import Derived.Shelf.SlSortCmp.NoneTotal
import Derived.Ground.SlsfProg
import Derived.Shelf.Spec.SlicesGrow
import Derived.Ground.Names8Prog
import Derived.Test.YtimkfiaffohhkabGreatDoorProg
import Derived.Sort.Grow
import Derived.Deep.Draws
set_option linter.unusedSimpArgs false
set_option linter.unusedVariables false
set_option linter.unusedSectionVars false
set_option maxRecDepth 100000
set_option maxHeartbeats 4000000
namespace Go.Proofs.YtimkfiaffohhkabGreatDoor
open Go.RowKit Go.Abs
structure aa where
 source:Int
 aF:Int
 kind:Int
 a:(O uA)
 b:(O uA)
 start:Int
 cX:Int
 call:Int
 part:Int
 last:Bool
 dh:Int
 bL:Bool
instance:Inhabited aa:=⟨⟨default,default,default,default,default,default,default,default,default,default,default,default⟩⟩
def aa.row (x:aa):O D:=[cI x.source,cI x.aF,cI x.kind,cS x.a,cS x.b,cI x.start,cI x.cX,cI x.call,cI x.part,cB x.last,cI x.dh,cB x.bL]
def aa.bM (x:aa):O uB:=[.int .i64 x.source,.int .i64 x.aF,.int .i64 x.kind,.string ⟨x.a.toArray⟩,.string ⟨x.b.toArray⟩,.int .i64 x.start,.int .i64 x.cX,.int .i64 x.call,.int .i64 x.part,.bool x.last,.int .i64 x.dh,.bool x.bL]
structure Range where
 source:Int
 from_:Int
 kV:Int
instance:Inhabited Range:=⟨⟨default,default,default⟩⟩
def Range.row (x:Range):O D:=[cI x.source,cI x.from_,cI x.kV]
def Range.bM (x:Range):O uB:=[.int .i64 x.source,.int .i64 x.from_,.int .i64 x.kV]
structure Head where
 source:Int
 number:Int
 format:Int
 count:Int
instance:Inhabited Head:=⟨⟨default,default,default,default⟩⟩
def Head.row (x:Head):O D:=[cI x.source,cI x.number,cI x.format,cI x.count]
def Head.bM (x:Head):O uB:=[.int .i64 x.source,.int .i64 x.number,.int .i64 x.format,.int .i64 x.count]
structure ai where
 source:Int
 aF:Int
 index:Int
 err:Int
instance:Inhabited ai:=⟨⟨default,default,default,default⟩⟩
def ai.row (x:ai):O D:=[cI x.source,cI x.aF,cI x.index,cI x.err]
def ai.bM (x:ai):O uB:=[.int .i64 x.source,.int .i64 x.aF,.int .i64 x.index,.int .i64 x.err]
structure aA where
 id:Int
 kind:Int
 az:Int
 sub:Int
 a:(O uA)
 b:(O uA)
 start:Int
 cX:Int
 dh:Int
 bL:Bool
 source:Int
 aF:Int
instance:Inhabited aA:=⟨⟨default,default,default,default,default,default,default,default,default,default,default,default⟩⟩
def aA.row (x:aA):O D:=[cI x.id,cI x.kind,cI x.az,cI x.sub,cS x.a,cS x.b,cI x.start,cI x.cX,cI x.dh,cB x.bL,cI x.source,cI x.aF]
def aA.bM (x:aA):O uB:=[.int .i64 x.id,.int .i64 x.kind,.int .i64 x.az,.int .i64 x.sub,.string ⟨x.a.toArray⟩,.string ⟨x.b.toArray⟩,.int .i64 x.start,.int .i64 x.cX,.int .i64 x.dh,.bool x.bL,.int .i64 x.source,.int .i64 x.aF]
structure Event where
 at_:Int
 kind:Int
 az:Int
 sub:Int
 number:(O uA)
 name:(O uA)
 value:Int
instance:Inhabited Event:=⟨⟨default,default,default,default,default,default,default⟩⟩
def Event.row (x:Event):O D:=[cI x.at_,cI x.kind,cI x.az,cI x.sub,cS x.number,cS x.name,cI x.value]
structure aq where
 id:Int
 since:Int
 anchor:Int
 gJ:Bool
 closed:Bool
 bp:(O Int)
instance:Inhabited aq:=⟨⟨default,default,default,default,default,default⟩⟩
def aq.row (x:aq):O D:=[cI x.id,cI x.since,cI x.anchor,cB x.gJ,cB x.closed,ag 1 rI x.bp]
def aq.pY (x:aq):O D:=[cI x.id,cI x.since,cI x.anchor,cB x.gJ,cB x.closed,.e0 1]
structure Sub where
 id:Int
 az:Int
 since:Int
 xb:(O uA)
 numbers:(O (O uA))
 cJ:(O (O uA))
 bY:Bool
 family:Bool
instance:Inhabited Sub:=⟨⟨default,default,default,default,default,default,default,default⟩⟩
def Sub.row (x:Sub):O D:=[cI x.id,cI x.az,cI x.since,cS x.xb,ag 1 rS x.numbers,ag 1 rS x.cJ,cB x.bY,cB x.family]
structure aj where
 aO:(O aq)
 bp:(O Sub)
 ended:(O Int)
instance:Inhabited aj:=⟨⟨default,default,default⟩⟩
def aj.row (x:aj):O D:=[ag 6 aq.pY x.aO,ag 8 Sub.row x.bp,ag 1 rI x.ended]
structure Batch where
 source:Int
 number:Int
 format:Int
 records:(O aa)
instance:Inhabited Batch:=⟨⟨default,default,default,default⟩⟩
def Batch.row (x:Batch):O D:=[cI x.source,cI x.number,cI x.format,ag 12 aa.row x.records]
structure aG where
 seen:(O Range)
 open_:(O aa)
 aP:(O Head)
instance:Inhabited aG:=⟨⟨default,default,default⟩⟩
def aG.row (x:aG):O D:=[ag 3 Range.row x.seen,ag 12 aa.row x.open_,ag 4 Head.row x.aP]
structure bU where
 eJ:Int
 jl:Int
instance:Inhabited bU:=⟨⟨default,default⟩⟩
def bU.row (x:bU):O D:=[cI x.eJ,cI x.jl]
structure aK where
 source:Int
 number:Int
instance:Inhabited aK:=⟨⟨default,default⟩⟩
def aK.row (x:aK):O D:=[cI x.source,cI x.number]
def aK.bM (x:aK):O uB:=[.int .i64 x.source,.int .i64 x.number]
structure bH where
 call:aK
 kind:Int
 a:(O uA)
 b:(O uA)
 dh:Int
 bL:Bool
instance:Inhabited bH:=⟨⟨default,default,default,default,default,default⟩⟩
def bH.row (x:bH):O D:=[cI x.call.source,cI x.call.number,cI x.kind,cS x.a,cS x.b,cI x.dh,cB x.bL]
def bH.bM (x:bH):O uB:=[.int .i64 x.call.source,.int .i64 x.call.number,.int .i64 x.kind,.string ⟨x.a.toArray⟩,.string ⟨x.b.toArray⟩,.int .i64 x.dh,.bool x.bL]
structure dQ where
 record:aa
instance:Inhabited dQ:=⟨⟨default⟩⟩
def dQ.row (x:dQ):O D:=[cI x.record.source,cI x.record.aF,cI x.record.kind,cS x.record.a,cS x.record.b,cI x.record.start,cI x.record.cX,cI x.record.call,cI x.record.part,cB x.record.last,cI x.record.dh,cB x.record.bL]
structure cD where
 aO:(O aq)
 bp:(O Sub)
instance:Inhabited cD:=⟨⟨default,default⟩⟩
def cD.row (x:cD):O D:=[ag 6 aq.row x.aO,ag 8 Sub.row x.bp]
structure lF where
 source:dQ
 events:(O Event)
instance:Inhabited lF:=⟨⟨default,default⟩⟩
def lF.row (x:lF):O D:=[cI x.source.record.source,cI x.source.record.aF,cI x.source.record.kind,cS x.source.record.a,cS x.source.record.b,cI x.source.record.start,cI x.source.record.cX,cI x.source.record.call,cI x.source.record.part,cB x.source.record.last,cI x.source.record.dh,cB x.source.record.bL,ag 7 Event.row x.events]
structure ah where
 al:aG
 usages:(O aA)
 aH:(O aa)
 br:(O ai)
instance:Inhabited ah:=⟨⟨default,default,default,default⟩⟩
def ah.row (x:ah):O D:=[ag 3 Range.row x.al.seen,ag 12 aa.row x.al.open_,ag 4 Head.row x.al.aP,ag 12 aA.row x.usages,ag 12 aa.row x.aH,ag 4 ai.row x.br]
structure vg where
 uU:ah
 events:(O Event)
instance:Inhabited vg:=⟨⟨default,default⟩⟩
def vg.row (x:vg):O D:=[ag 3 Range.row x.uU.al.seen,ag 12 aa.row x.uU.al.open_,ag 4 Head.row x.uU.al.aP,ag 12 aA.row x.uU.usages,ag 12 aa.row x.uU.aH,ag 4 ai.row x.uU.br,ag 7 Event.row x.events]
structure bN where
 read:Int
 accepted:Int
 merged:Int
 rejected:Int
 bY:Int
 open_:Int
instance:Inhabited bN:=⟨⟨default,default,default,default,default,default⟩⟩
def bN.row (x:bN):O D:=[cI x.read,cI x.accepted,cI x.merged,cI x.rejected,cI x.bY,cI x.open_]
def bN.bM (x:bN):O uB:=[.int .i64 x.read,.int .i64 x.accepted,.int .i64 x.merged,.int .i64 x.rejected,.int .i64 x.bY,.int .i64 x.open_]
structure bt where
 source:Int
 aF:Int
 deriving DecidableEq
instance:Inhabited bt:=⟨⟨default,default⟩⟩
def bt.row (x:bt):O D:=[cI x.source,cI x.aF]
def bt.bM (x:bt):O uB:=[.int .i64 x.source,.int .i64 x.aF]
structure bc where
 source:Int
 aF:Int
 deriving DecidableEq
instance:Inhabited bc:=⟨⟨default,default⟩⟩
def bc.row (x:bc):O D:=[cI x.source,cI x.aF]
def bc.bM (x:bc):O uB:=[.int .i64 x.source,.int .i64 x.aF]
structure ib where
 batch:Batch
 qH:bU
instance:Inhabited ib:=⟨⟨default,default⟩⟩
structure cM where
 kind:Int
 before:Int
 now:Int
 yN:ib
instance:Inhabited cM:=⟨⟨default,default,default,default⟩⟩
def cM.row (x:cM):O D:=[cI x.kind,cI x.before,cI x.now,cI x.yN.batch.source,cI x.yN.batch.number,cI x.yN.batch.format,ag 12 aa.row x.yN.batch.records,cI x.yN.qH.eJ,cI x.yN.qH.jl]
abbrev Event.o57 (x:Event):dU:=.row 57 [.d (cI x.at_),.d (cI x.kind),.d (cI x.az),.d (cI x.sub),.d (cS x.number),.d (cS x.name),.d (cI x.value)]
abbrev Sub.o148 (x:Sub):dU:=.row 148 [.d (cI x.id),.d (cI x.az),.d (cI x.since),.d (cS x.xb),.d (ag 1 rS x.numbers),.d (ag 1 rS x.cJ),.d (cB x.bY),.d (cB x.family)]
abbrev aj.o97 (x:aj):dU:=.row 97 [.d (ag 6 aq.pY x.aO),.d (ag 8 Sub.row x.bp),.d (ag 1 rI x.ended)]
abbrev aa.o61 (x:aa):dU:=.row 61 [.d (cI x.source),.d (cI x.aF),.d (cI x.kind),.d (cS x.a),.d (cS x.b),.d (cI x.start),.d (cI x.cX),.d (cI x.call),.d (cI x.part),.d (cB x.last),.d (cI x.dh),.d (cB x.bL)]
abbrev aq.o144 (x:aq):dU:=.row 144 [.d (cI x.id),.d (cI x.since),.d (cI x.anchor),.d (cB x.gJ),.d (cB x.closed),.d (ag 1 rI x.bp)]
abbrev Batch.o36 (x:Batch):dU:=.row 36 [.d (cI x.source),.d (cI x.number),.d (cI x.format),.d (ag 12 aa.row x.records)]
abbrev aG.o30 (x:aG):dU:=.row 30 [.d (ag 3 Range.row x.seen),.d (ag 12 aa.row x.open_),.d (ag 4 Head.row x.aP)]
abbrev Range.o102 (x:Range):dU:=.row 102 [.d (cI x.source),.d (cI x.from_),.d (cI x.kV)]
abbrev Head.o91 (x:Head):dU:=.row 91 [.d (cI x.source),.d (cI x.number),.d (cI x.format),.d (cI x.count)]
abbrev aA.o64 (x:aA):dU:=.row 64 [.d (cI x.id),.d (cI x.kind),.d (cI x.az),.d (cI x.sub),.d (cS x.a),.d (cS x.b),.d (cI x.start),.d (cI x.cX),.d (cI x.dh),.d (cB x.bL),.d (cI x.source),.d (cI x.aF)]
abbrev ah.o34 (x:ah):dU:=.row 34 [.d (ag 3 Range.row x.al.seen),.d (ag 12 aa.row x.al.open_),.d (ag 4 Head.row x.al.aP),.d (ag 12 aA.row x.usages),.d (ag 12 aa.row x.aH),.d (ag 4 ai.row x.br)]
abbrev mo0 (l:O ((Int)×Int)):dU:=.map (lD (λn=>Value.int .i64 n) (λx=>cI x) l)
abbrev mo1 (l:O ((Int)×Bool)):dU:=.map (lD (λn=>Value.int .i64 n) (λx=>cB x) l)
abbrev mo2 (l:O ((O uA)×Int)):dU:=.map (lD (λs=>Value.string ⟨s.toArray⟩) (λx=>cI x) l)
abbrev mo3 (l:O ((Int)×aq)):dU:=.map (lD (λn=>Value.int .i64 n) (λx=>.agg (aq.row x)) l)
abbrev mo4 (l:O ((Int)×Sub)):dU:=.map (lD (λn=>Value.int .i64 n) (λx=>.agg (Sub.row x)) l)
abbrev mo5 (l:O ((bc)×Bool)):dU:=.map (lD (λx=>Value.agg (bc.bM x).toArray) (λx=>cB x) l)
abbrev mo6 (l:O ((bt)×Bool)):dU:=.map (lD (λx=>Value.agg (bt.bM x).toArray) (λx=>cB x) l)
abbrev mo7 (l:O ((Int)×O Int)):dU:=.map (lD (λn=>Value.int .i64 n) (λx=>ag 1 rI x) l)
abbrev kq0:aq:=(⟨0,0,0,false,false,([]:O Int)⟩:aq)
abbrev kq1:Event:=(⟨0,5,0,2,([49]:O uA),([]:O uA),0⟩:Event)
abbrev kq2:Event:=(⟨10,5,0,2,([51]:O uA),([]:O uA),0⟩:Event)
abbrev kq3:aG:=(⟨([]:O Range),([]:O aa),([]:O Head)⟩:aG)
abbrev kq4:aA:=(⟨0,0,0,0,([]:O uA),([]:O uA),0,0,0,false,0,0⟩:aA)
abbrev kq5:Event:=(⟨0,3,1,2,([]:O uA),([98,97,115,105,99]:O uA),0⟩:Event)
abbrev kq6:aa:=(⟨0,0,0,([]:O uA),([]:O uA),0,0,0,0,false,0,false⟩:aa)
abbrev kq7:aa:=(⟨1,2,2,([49]:O uA),([50]:O uA),20,1,5,2,true,0,false⟩:aa)
abbrev kq8:aa:=(⟨1,1,2,([49]:O uA),([50]:O uA),20,1,0,0,false,0,false⟩:aa)
abbrev kq9:aa:=(⟨1,2,2,([51]:O uA),([50]:O uA),20,1,0,0,false,0,false⟩:aa)
abbrev kq10:aa:=(⟨1,1,2,([49]:O uA),([50]:O uA),20,1,5,1,false,0,false⟩:aa)
abbrev kq11:Event:=(⟨0,1,1,0,([]:O uA),([112,111,115,116,112,97,105,100]:O uA),1⟩:Event)
abbrev kq12:Sub:=(⟨0,0,0,([]:O uA),([]:O (O uA)),([]:O (O uA)),false,false⟩:Sub)
abbrev kq13:ah:=(⟨(⟨([]:O Range),([]:O aa),([]:O Head)⟩:aG),([]:O aA),([]:O aa),([]:O ai)⟩:ah)
abbrev E5 (n:Nat):iR:=⟨9,1,n,none⟩
abbrev Sub.xc (n:Nat) (l:O Sub):iR:=⟨148,8,n,some (l.map Sub.row)⟩
abbrev Sub.G2 (l:O Sub):iR:=⟨148,8,l.length,some (l.map Sub.row)⟩
abbrev qI (n:Nat):iR:=⟨88,4,n,none⟩
abbrev Range.ud (n:Nat) (l:O Range):iR:=⟨102,3,n,some (l.map Range.row)⟩
abbrev pg (n:Nat):iR:=⟨102,3,n,none⟩
abbrev Range.pE (l:O Range):iR:=⟨102,3,l.length,some (l.map Range.row)⟩
abbrev ba (n:Nat):iR:=⟨61,12,n,none⟩
abbrev G3 (n:Nat):iR:=⟨3,1,n,none⟩
abbrev aa.qV (n:Nat) (l:O aa):iR:=⟨61,12,n,some (l.map aa.row)⟩
abbrev aa.kG (l:O aa):iR:=⟨61,12,l.length,some (l.map aa.row)⟩
abbrev ai.AO (l:O ai):iR:=⟨88,4,l.length,some (l.map ai.row)⟩
abbrev ai.CR (n:Nat) (l:O ai):iR:=⟨88,4,n,some (l.map ai.row)⟩
abbrev D5 (n:Nat):iR:=⟨91,4,n,none⟩
abbrev lW (n:Nat):iR:=⟨148,8,n,none⟩
abbrev FY (n:Nat):iR:=⟨144,6,n,none⟩
abbrev aA.lU (l:O aA):iR:=⟨64,12,l.length,some (l.map aA.row)⟩
abbrev aA.Ry (n:Nat) (l:O aA):iR:=⟨64,12,n,some (l.map aA.row)⟩
abbrev Ao (n:Nat):iR:=⟨64,12,n,none⟩
def wy (n:Int):J (O uA):=ck (-9223372036854775808<=n/\n<=9223372036854775807) (some (Go.Lib.itoa n))
def OZ (xs:O (O uA)) (sep:O uA):J (O uA):=ck (xs.length<=1000000000/\(Go.Lib.join xs sep).length<=1000000000) (some (Go.Lib.join xs sep))
def dv (xs:O aa):J (O aa):=ck (xs.length<=1000000000) (some xs)
def gK (xs:O Range):J (O Range):=ck (xs.length<=1000000000) (some xs)
def kW (xs:O Head):J (O Head):=ck (xs.length<=1000000000) (some xs)
def re (i:Int) (l l':O aa):J (O aa):=ck (0<=i/\i<=(l.length:Int)/\1<=l'.length/\l.length+l'.length<=1000000000) (some (l.take i.toNat++l'++l.drop i.toNat))
def sP (i:Int) (l l':O Range):J (O Range):=ck (0<=i/\i<=(l.length:Int)/\1<=l'.length/\l.length+l'.length<=1000000000) (some (l.take i.toNat++l'++l.drop i.toNat))
def tO (i j:Int) (l' l:O aa):J (O aa):=ck (0<=i/\i<j/\j<=(l.length:Int)/\(l'.length:Int)<=j-i/\l.length<=1000000000) (some (l.take i.toNat++l'++l.drop j.toNat))
def pZ (i j:Int) (l:O Range):J (O Range):=ck (0<=i/\i<j/\j<=(l.length:Int)/\l.length<=1000000000) (some (l.take i.toNat++l.drop j.toNat))
def Fs (x:ai):List ai->List ai
 | []=>[x]
 | y::l=>if x.index<=y.index then x::y::l else y::Fs x l
def Jp:List ai->List ai
 | []=>[]
 | x::l=>Fs x (Jp l)
def ux (l:O ai):J (O ai):=ck (l.length<=1000000000/\(l.map (·.index)).Nodup) (some (Jp l))
def p7 (xs:O ai):J (O ai):=ck (xs.length<=1000000000) (some xs)
def uy (xs:O aA):J (O aA):=ck (xs.length<=1000000000) (some xs)
def ya (n:Int):J (O aa):=ck (0<=n/\n<=1000000000) (some [])
def lG (Jq:Bool):J (O Bool) :=
 if Jq=true then some ([true,false,false,false,true]:O Bool) else some ([false,true,false,false,false]:O Bool)
def jI (eR:Int) (Jr:Bool):J (O Bool) :=
 if Jr=true then some ([false,true,false,true,false]:O Bool) else if (eR==14)=true then (lG (eR==14)) else lG (eR==15)
def lH (eR:Int) (mM:Bool):J (O Bool) :=
 if mM=true then some ([false,true,true,false,false]:O Bool) else if (eR==7)=true then (jI eR (eR==7)) else if (eR==8)=true then (jI eR (eR==8)) else jI eR (eR==9)
def si (eR:Int):J (O Bool) :=
 if (eR==1)=true then some ([true,false,false,true,true]:O Bool) else if (eR==2)=true then some ([true,false,false,false,false]:O Bool) else if (eR==3)=true then some ([true,true,false,true,false]:O Bool) else if (eR==5)=true then (lH eR (eR==5)) else lH eR (eR==6)
def zF (AP:Int):J Bool :=
 some ((decide (AP>=1)) && (decide (AP<=9999)))
def p8 (bV:O uA) (bF:Int):J (Int ⊕ Bool) :=
 if (decide (bF<(bV.length:Int)))=true then (ck ((0:Int)<=bF/\bF<(bV.length:Int)) (ck ((!(decide ((nth bV bF.toNat)<97)))=true->((0:Int)<=bF/\bF<(bV.length:Int))) (ck (((decide ((nth bV bF.toNat)<97)) || (decide ((nth bV bF.toNat) > 122)))=true->((0:Int)<=bF/\bF<(bV.length:Int))) (ck ((((decide ((nth bV bF.toNat)<97)) || (decide ((nth bV bF.toNat) > 122))) && (!(decide ((nth bV bF.toNat)<48))))=true->((0:Int)<=bF/\bF<(bV.length:Int))) (ck ((((decide ((nth bV bF.toNat)<97)) || (decide ((nth bV bF.toNat) > 122))) && ((decide ((nth bV bF.toNat)<48)) || (decide ((nth bV bF.toNat) > 57))))=true->((0:Int)<=bF/\bF<(bV.length:Int))) (if ((((decide ((nth bV bF.toNat)<97)) || (decide ((nth bV bF.toNat) > 122))) && ((decide ((nth bV bF.toNat)<48)) || (decide ((nth bV bF.toNat) > 57)))) && ((nth bV bF.toNat) != 45))=true then some (.inr false) else ck (dp (bF+1)) (some (.inl (bF+1))))))))) else some (.inr true)
def vh (bV:O uA):J Bool :=
 ck ((!((decide ((bV.length:Int)<1)) || (decide ((bV.length:Int) > 24))))=true->((0:Int)<=0/\0<(bV.length:Int))) (ck ((!(((decide ((bV.length:Int)<1)) || (decide ((bV.length:Int) > 24))) || (decide ((nth bV (Int.toNat (0)))<97))))=true->((0:Int)<=0/\0<(bV.length:Int))) (if ((((decide ((bV.length:Int)<1)) || (decide ((bV.length:Int) > 24))) || (decide ((nth bV (Int.toNat (0)))<97))) || (decide ((nth bV (Int.toNat (0))) > 122)))=true then some false else loop (λs=>p8 bV s) 0))
def ot (bV:O uA):J Bool :=
 some ((decide ((bV.length:Int)>=1)) && (decide ((bV.length:Int)<=15)))
def rf (bV:O uA) (bF:Int):J (Int ⊕ Bool) :=
 if (decide (bF<(bV.length:Int)))=true then (ck ((0:Int)<=bF/\bF<(bV.length:Int)) (ck ((!(decide ((nth bV bF.toNat)<48)))=true->((0:Int)<=bF/\bF<(bV.length:Int))) (if ((decide ((nth bV bF.toNat)<48)) || (decide ((nth bV bF.toNat) > 57)))=true then some (.inr false) else ck (dp (bF+1)) (some (.inl (bF+1)))))) else (ot bV).map (λz=>.inr z)
def ou (bV:O uA):J Bool :=
 loop (λs=>rf bV s) 0
def te (Tr:Event):J Bool :=
 if (Tr.kind==1)=true then some ((decide (Tr.value>=1)) && (decide (Tr.value<=28))) else if (Tr.kind==14)=true then some ((decide (Tr.value>=1)) && (decide (Tr.value<=1125899906842624))) else some ((decide (Tr.value>=(-1125899906842624))) && (decide (Tr.value<=0)))
def vi (v0:Event) (v1:Int):J Int :=
 if ((decide (v0.kind<1)) || (decide (v0.kind > 15)))=true then some 7 else if ((decide (v0.at_<0)) || (decide (v0.at_>=12622780800)))=true then some 15 else if (decide (v0.at_<v1))=true then some 9 else (si v0.kind).bind λy1=>if ((((((!(nth y1 0)) && (v0.az != 0)) || ((!(nth y1 1)) && (v0.sub != 0))) || ((!(nth y1 2)) && (v0.number != ([]:O uA)))) || ((!(nth y1 3)) && (v0.name != ([]:O uA)))) || ((!(nth y1 4)) && (v0.value != 0)))=true then some 8 else (cG (nth y1 0) (zF v0.az)).bind λy2=>(cG ((!((nth y1 0) && (!y2))) && (nth y1 1)) (zF v0.sub)).bind λy3=>if (((nth y1 0) && (!y2)) || ((nth y1 1) && (!y3)))=true then some 6 else (cG (nth y1 3) (vh v0.name)).bind λy4=>if (((nth y1 3) && (!y4)) || (((v0.kind==1) && (v0.name != ([112,114,101,112,97,105,100]:O uA))) && (v0.name != ([112,111,115,116,112,97,105,100]:O uA))))=true then some 8 else (cG (nth y1 2) (ou v0.number)).bind λy5=>if ((nth y1 2) && (!y5))=true then some 12 else (cG (nth y1 4) (te v0)).bind λy6=>if ((nth y1 4) && (!y6))=true then some 6 else some 0
def mj (fD:aj) (wz:Int) (aI:Int):J (Int ⊕ Int) :=
 if (decide (aI<(fD.aO.length:Int)))=true then (ck ((0:Int)<=aI/\aI<(fD.aO.length:Int)) (if (((nth fD.aO aI.toNat).id)==wz)=true then some (.inr aI) else ck (dp (aI+1)) (some (.inl (aI+1))))) else some (.inr (-1))
def lI (fD:aj) (wz:Int):J Int :=
 loop (λs=>mj fD wz s) 0
def rh (fD:aj) (wz:Int) (aI:Int):J (Int ⊕ Int) :=
 if (decide (aI<(fD.bp.length:Int)))=true then (ck ((0:Int)<=aI/\aI<(fD.bp.length:Int)) (if (((nth fD.bp aI.toNat).id)==wz)=true then some (.inr aI) else ck (dp (aI+1)) (some (.inl (aI+1))))) else some (.inr (-1))
def ph (fD:aj) (wz:Int):J Int :=
 loop (λs=>rh fD wz s) 0
def ov (fD:aj) (wz:Int) (aI:Int):J (Int ⊕ Bool) :=
 if (decide (aI<(fD.ended.length:Int)))=true then (ck ((0:Int)<=aI/\aI<(fD.ended.length:Int)) (if ((nth fD.ended aI.toNat)==wz)=true then some (.inr true) else ck (dp (aI+1)) (some (.inl (aI+1))))) else some (.inr false)
def mN (fD:aj) (wz:Int):J Bool :=
 loop (λs=>ov fD wz s) 0
def lJ (fD:aj) (wz:Int) (aI:Int):J (Int ⊕ Bool) :=
 if (decide (aI<(fD.bp.length:Int)))=true then (ck ((0:Int)<=aI/\aI<(fD.bp.length:Int)) (ck ((((nth fD.bp aI.toNat).az)==wz)=true->((0:Int)<=aI/\aI<(fD.bp.length:Int))) ((cG (((nth fD.bp aI.toNat).az)==wz) (mN fD (nth fD.bp aI.toNat).id)).bind λy1=>if ((((nth fD.bp aI.toNat).az)==wz) && (!y1))=true then some (.inr true) else ck (dp (aI+1)) (some (.inl (aI+1)))))) else some (.inr false)
def vj (fD:aj) (wz:Int):J Bool :=
 loop (λs=>lJ fD wz s) 0
def nm (fD:aj) (ue:Event):J Int :=
 (lI fD ue.az).bind λy1=>if (ue.kind==1)=true then (if (decide (y1>=0))=true then some 10 else some 0) else if (decide (y1<0))=true then some 11 else ck ((0:Int)<=y1/\y1<(fD.aO.length:Int)) (if ((nth fD.aO y1.toNat).closed)=true then some 17 else (cG (ue.kind==3) (ph fD ue.sub)).bind λy2=>if ((ue.kind==3) && (decide (y2>=0)))=true then some 10 else (cG (ue.kind==2) (vj fD ue.az)).bind λy3=>ck (((!((ue.kind==2) && y3)) && (decide (ue.kind > 13)))=true->((0:Int)<=y1/\y1<(fD.aO.length:Int))) (if (((ue.kind==2) && y3) || ((decide (ue.kind > 13)) && (!(nth fD.aO y1.toNat).gJ)))=true then some 22 else some 0))
def ri (lK:O (O uA)) (zG:O uA) (aI:Int):J (Int ⊕ Bool) :=
 if (decide (aI<(lK.length:Int)))=true then (ck ((0:Int)<=aI/\aI<(lK.length:Int)) (if ((nth lK aI.toNat)==zG)=true then some (.inr true) else ck (dp (aI+1)) (some (.inl (aI+1))))) else some (.inr false)
def pj (lK:O (O uA)) (zG:O uA):J Bool :=
 loop (λs=>ri lK zG s) 0
def ox (fD:aj) (dE:O uA) (aI:Int):J (Int ⊕ Bool) :=
 if (decide (aI<(fD.bp.length:Int)))=true then (ck ((0:Int)<=aI/\aI<(fD.bp.length:Int)) ((pj (nth fD.bp aI.toNat).numbers dE).bind λy1=>if y1=true then some (.inr true) else ck (dp (aI+1)) (some (.inl (aI+1))))) else some (.inr false)
def tf (fD:aj) (dE:O uA):J Bool :=
 loop (λs=>ox fD dE s) 0
def ml (v0:aj) (v1:Event) (y1:Int) (Js:Bool):J Int :=
 if Js=true then (if (((nth v0.bp y1.toNat).family)==(v1.kind==12))=true then some 22 else some 0) else some 0
def mm (v0:aj) (v1:Event) (y1:Int) (Jt:Bool):J Int :=
 if Jt=true then (if (((nth v0.bp y1.toNat).bY)==(v1.kind==10))=true then some 22 else some 0) else if (v1.kind==12)=true then (ml v0 v1 y1 (v1.kind==12)) else ml v0 v1 y1 (v1.kind==13)
def tg (v0:aj) (v1:Event):J Int :=
 (ph v0 v1.sub).bind λy1=>if (decide (y1<0))=true then some 11 else (mN v0 v1.sub).bind λy2=>if y2=true then some 17 else ck ((0:Int)<=y1/\y1<(v0.bp.length:Int)) (if (v1.kind==5)=true then ((tf v0 v1.number).bind λy3=>if y3=true then some 12 else some 0) else if (v1.kind==6)=true then ((pj (nth v0.bp y1.toNat).numbers v1.number).bind λy4=>if (!y4)=true then some 12 else some 0) else if (v1.kind==8)=true then ((pj (nth v0.bp y1.toNat).cJ v1.name).bind λy5=>if y5=true then some 10 else some 0) else if (v1.kind==9)=true then ((pj (nth v0.bp y1.toNat).cJ v1.name).bind λy6=>if (!y6)=true then some 11 else some 0) else if (v1.kind==10)=true then (mm v0 v1 y1 (v1.kind==10)) else mm v0 v1 y1 (v1.kind==11))
def qM (fD:aj) (ue:Event) (sj:Int):J Int :=
 (vi ue sj).bind λy1=>if (y1 != 0)=true then some y1 else (si ue.kind).bind λy2=>if (nth y2 0)=true then ((nm fD ue).bind λy3=>some y3) else (tg fD ue).bind λy4=>some y4
def nE (lK:O (O uA)) (zG:O uA) (ct:Int):J (O (O uA)) :=
 ck ((0:Int)<=ct/\ct<=(lK.length:Int)) (ck (([]:O (O uA)).length+(lK.take ct.toNat).length<=1000000000) (ck ((([]:O (O uA))++(lK.take ct.toNat)).length+([zG]:O (O uA)).length<=1000000000) (ck ((0:Int)<=ct/\ct<=(lK.length:Int)) (ck (((([]:O (O uA))++(lK.take ct.toNat))++([zG]:O (O uA))).length+(lK.drop ct.toNat).length<=1000000000) (some (((([]:O (O uA))++(lK.take ct.toNat))++([zG]:O (O uA)))++(lK.drop ct.toNat)))))))
def wA (lK:O (O uA)) (zG:O uA) (dq:Int):J (Int ⊕ (O (O uA))) :=
 ck ((decide (dq<(lK.length:Int)))=true->((0:Int)<=dq/\dq<(lK.length:Int))) (if ((decide (dq<(lK.length:Int))) && (pM (nth lK dq.toNat) zG))=true then (ck (dp (dq+1)) (some (.inl (dq+1)))) else (nE lK zG dq).map (λz=>.inr z))
def sk (lK:O (O uA)) (zG:O uA):J (O (O uA)) :=
 loop (λs=>wA lK zG s) 0
def sn (lK:O (O uA)) (zG:O uA) (cO:O (O uA)) (cw:Int):J ((O (O uA)×Int) ⊕ (O (O uA))) :=
 if (decide (cw<(lK.length:Int)))=true then (ck ((0:Int)<=cw/\cw<(lK.length:Int)) (if ((nth lK cw.toNat) != zG)=true then (ck ((0:Int)<=cw/\cw<(lK.length:Int)) (ck (cO.length+([nth lK cw.toNat]:O (O uA)).length<=1000000000) (ck (dp (cw+1)) (some (.inl (cO++([nth lK cw.toNat]:O (O uA)),cw+1)))))) else ck (dp (cw+1)) (some (.inl (cO,cw+1))))) else some (.inr cO)
def nF (lK:O (O uA)) (zG:O uA):J (O (O uA)) :=
 loop (λs=>sn lK zG s.1 s.2) (([]:O (O uA)),0)
def p9 (bV:Sub) (ue:Event):J Sub :=
 if (ue.kind==4)=true then some (⟨bV.id,bV.az,bV.since,bV.xb,([]:O (O uA)),([]:O (O uA)),bV.bY,bV.family⟩:Sub) else if (ue.kind==5)=true then ((sk bV.numbers ue.number).bind λy1=>some (⟨bV.id,bV.az,bV.since,bV.xb,y1,bV.cJ,bV.bY,bV.family⟩:Sub)) else if (ue.kind==6)=true then ((nF bV.numbers ue.number).bind λy2=>some (⟨bV.id,bV.az,bV.since,bV.xb,y2,bV.cJ,bV.bY,bV.family⟩:Sub)) else if (ue.kind==7)=true then some (⟨bV.id,bV.az,bV.since,ue.name,bV.numbers,bV.cJ,bV.bY,bV.family⟩:Sub) else if (ue.kind==8)=true then ((sk bV.cJ ue.name).bind λy3=>some (⟨bV.id,bV.az,bV.since,bV.xb,bV.numbers,y3,bV.bY,bV.family⟩:Sub)) else if (ue.kind==9)=true then ((nF bV.cJ ue.name).bind λy4=>some (⟨bV.id,bV.az,bV.since,bV.xb,bV.numbers,y4,bV.bY,bV.family⟩:Sub)) else if (ue.kind==10)=true then some (⟨bV.id,bV.az,bV.since,bV.xb,bV.numbers,bV.cJ,true,bV.family⟩:Sub) else if (ue.kind==11)=true then some (⟨bV.id,bV.az,bV.since,bV.xb,bV.numbers,bV.cJ,false,bV.family⟩:Sub) else if (ue.kind==12)=true then some (⟨bV.id,bV.az,bV.since,bV.xb,bV.numbers,bV.cJ,bV.bY,true⟩:Sub) else if (ue.kind==13)=true then some (⟨bV.id,bV.az,bV.since,bV.xb,bV.numbers,bV.cJ,bV.bY,false⟩:Sub) else some bV
def jX (v0:aj) (v1:Event) (Ju:Bool):J aj :=
 if Ju=true then some (⟨([]:O aq)++v0.aO,([]:O Sub)++v0.bp,([]:O Int)++v0.ended⟩:aj) else (ph v0 v1.sub).bind λy2=>ck ((0:Int)<=y2/\y2<((([]:O Sub)++v0.bp).length:Int)) (ck (y2.toNat<(([]:O Sub)++v0.bp).length) ((p9 (nth (([]:O Sub)++v0.bp) y2.toNat) v1).bind λy3=>ck ((0:Int)<=y2/\y2<((([]:O Sub)++v0.bp).length:Int)) (ck (y2.toNat<(([]:O Sub)++v0.bp).length) (if (v1.kind==4)=true then (ck ((([]:O Int)++v0.ended).length+([v1.sub]:O Int).length<=1000000000) (some (⟨([]:O aq)++v0.aO,(([]:O Sub)++v0.bp).set y2.toNat y3,(([]:O Int)++v0.ended)++([v1.sub]:O Int)⟩:aj))) else some (⟨([]:O aq)++v0.aO,(([]:O Sub)++v0.bp).set y2.toNat y3,([]:O Int)++v0.ended⟩:aj)))))
def iT (v0:aj) (v1:Event):J aj :=
 ck (v0.aO.length<=1000000000) (ck (v0.bp.length<=1000000000) (ck (v0.ended.length<=1000000000) (if (v1.kind==1)=true then (ck ((([]:O aq)++v0.aO).length+([(⟨v1.az,v1.at_,v1.value,(v1.name==([112,114,101,112,97,105,100]:O uA)),false,([]:O Int)⟩:aq)]:O aq).length<=1000000000) (some (⟨(([]:O aq)++v0.aO)++([(⟨v1.az,v1.at_,v1.value,(v1.name==([112,114,101,112,97,105,100]:O uA)),false,([]:O Int)⟩:aq)]:O aq),([]:O Sub)++v0.bp,([]:O Int)++v0.ended⟩:aj))) else if (v1.kind==2)=true then ((lI v0 v1.az).bind λy1=>ck ((0:Int)<=y1/\y1<((([]:O aq)++v0.aO).length:Int)) (ck (y1.toNat<(([]:O aq)++v0.aO).length) (some (⟨(([]:O aq)++v0.aO).set y1.toNat (⟨(nth (([]:O aq)++v0.aO) y1.toNat).id,(nth (([]:O aq)++v0.aO) y1.toNat).since,(nth (([]:O aq)++v0.aO) y1.toNat).anchor,(nth (([]:O aq)++v0.aO) y1.toNat).gJ,true,([]:O Int)⟩:aq),([]:O Sub)++v0.bp,([]:O Int)++v0.ended⟩:aj)))) else if (v1.kind==3)=true then (ck ((([]:O Sub)++v0.bp).length+([(⟨v1.sub,v1.az,v1.at_,v1.name,([]:O (O uA)),([]:O (O uA)),false,false⟩:Sub)]:O Sub).length<=1000000000) (some (⟨([]:O aq)++v0.aO,(([]:O Sub)++v0.bp)++([(⟨v1.sub,v1.az,v1.at_,v1.name,([]:O (O uA)),([]:O (O uA)),false,false⟩:Sub)]:O Sub),([]:O Int)++v0.ended⟩:aj))) else if (v1.kind==14)=true then (jX v0 v1 (v1.kind==14)) else jX v0 v1 (v1.kind==15))))
def oy (aw:O Event) (zH:Int) (cw:Int) (cW:O aq) (fR:O Sub) (fS:O Int):J ((Int×Int×O aq×O Sub×O Int) ⊕ (Int×Int)) :=
 if (decide (cw<(aw.length:Int)))=true then (ck ((0:Int)<=cw/\cw<(aw.length:Int)) ((qM (⟨cW,fR,fS⟩:aj) (nth aw cw.toNat) zH).bind λy1=>if (y1 != 0)=true then some (.inr (cw,y1)) else ck ((0:Int)<=cw/\cw<(aw.length:Int)) ((iT (⟨cW,fR,fS⟩:aj) (nth aw cw.toNat)).bind λy2=>ck ((0:Int)<=cw/\cw<(aw.length:Int)) (ck (dp (cw+1)) (some (.inl ((nth aw cw.toNat).at_,cw+1,y2.aO,y2.bp,y2.ended))))))) else some (.inr (0,0))
def th (aw:O Event):J (Int×Int) :=
 if (decide ((aw.length:Int) > 4096))=true then some (0,5) else loop (λs=>oy aw s.1 s.2.1 s.2.2.1 s.2.2.2.1 s.2.2.2.2) (0,0,([]:O aq),([]:O Sub),([]:O Int))
def rk (aw:O Event):J Bool :=
 if (decide ((aw.length:Int) > 40))=true then some false else (th aw).bind λy1=>some (y1.2==0)
def uz (aw:O Event) (bF:Int):J (Int ⊕ Bool) :=
 if ((decide (bF<(aw.length:Int))) && (decide (bF<41)))=true then (ck ((0:Int)<=bF/\bF<(aw.length:Int)) (ck ((!(decide ((((nth aw bF.toNat).name).length:Int) > 200)))=true->((0:Int)<=bF/\bF<(aw.length:Int))) (if ((decide ((((nth aw bF.toNat).name).length:Int) > 200)) || (decide ((((nth aw bF.toNat).number).length:Int) > 200)))=true then some (.inr false) else ck (dp (bF+1)) (some (.inl (bF+1)))))) else (rk aw).map (λz=>.inr z)
def xd (aw:O Event):J Bool :=
 loop (λs=>uz aw s) 0
def rl (Ky:Bool):J (O Event) :=
 if Ky=true then (ck (([(⟨0,1,1,0,([]:O uA),([112,111,115,116,112,97,105,100]:O uA),1⟩:Event),(⟨0,3,1,2,([]:O uA),([98,97,115,105,99]:O uA),0⟩:Event),(⟨0,5,0,2,([49]:O uA),([]:O uA),0⟩:Event)]:O Event).length+([(⟨10,5,0,2,([51]:O uA),([]:O uA),0⟩:Event)]:O Event).length<=1000000000) (some (([(⟨0,1,1,0,([]:O uA),([112,111,115,116,112,97,105,100]:O uA),1⟩:Event),(⟨0,3,1,2,([]:O uA),([98,97,115,105,99]:O uA),0⟩:Event),(⟨0,5,0,2,([49]:O uA),([]:O uA),0⟩:Event)]:O Event)++([(⟨10,5,0,2,([51]:O uA),([]:O uA),0⟩:Event)]:O Event)))) else some ([(⟨0,1,1,0,([]:O uA),([112,111,115,116,112,97,105,100]:O uA),1⟩:Event),(⟨0,3,1,2,([]:O uA),([98,97,115,105,99]:O uA),0⟩:Event),(⟨0,5,0,2,([49]:O uA),([]:O uA),0⟩:Event)]:O Event)
def rm (fD:Batch):J Head :=
 some (⟨fD.source,fD.number,fD.format,(fD.records.length:Int)⟩:Head)
def jY (AP:Int) (Kz:Int) (KA:Int):J Bool :=
 some ((decide (AP>=Kz)) && (decide (AP<=KA)))
def kX (Zx:Head):J Int :=
 (jY Zx.source 1 99).bind λy1=>(cG (!(!y1)) (jY Zx.number 1 999999999)).bind λy2=>if ((!y1) || (!y2))=true then some 6 else (jY Zx.format 1 3).bind λy3=>if (!y3)=true then some 7 else (jY Zx.count 0 4096).bind λy4=>if (!y4)=true then some 5 else some 0
def ef (AP:Int) (Kz:Int) (KA:Int):J Bool :=
 some ((decide (AP>=Kz)) && (decide (AP<=KA)))
def rn (VV:uA):J Bool :=
 some ((decide (VV>=48)) && (decide (VV<=57)))
def kY (bV:O uA):J Bool :=
 some ((decide ((bV.length:Int)>=1)) && (decide ((bV.length:Int)<=15)))
def nR (bV:O uA) (mV:Int):J (Int ⊕ Bool) :=
 if (decide (mV<(bV.length:Int)))=true then (ck ((0:Int)<=mV/\mV<(bV.length:Int)) ((rn (nth bV mV.toNat)).bind λy1=>if (!y1)=true then some (.inr false) else ck (dp (mV+1)) (some (.inl (mV+1))))) else (kY bV).map (λz=>.inr z)
def mn (bV:O uA):J Bool :=
 loop (λs=>nR bV s) 0
def gh (v0:aa) (Rz:Int):J Int :=
 (ef v0.source 1 99).bind λy1=>(cG (!(!y1)) (ef v0.aF 1 999999999)).bind λy2=>if ((!y1) || (!y2))=true then some 6 else (ef v0.kind 1 4).bind λy3=>if (!y3)=true then some 7 else (mn v0.a).bind λy4=>(cG (!(!y4)) (mn v0.b)).bind λy5=>if ((!y4) || ((!y5) && (!(((v0.kind==3) || (v0.kind==4)) && (v0.b==([]:O uA))))))=true then some 12 else (ef v0.start 0 12622780799).bind λy6=>if (!y6)=true then some 15 else (ef v0.cX 0 Rz).bind λy7=>if (!y7)=true then some 6 else ck ((v0.kind==1)=true->(dp (v0.start+v0.cX))) (if ((v0.kind==1) && (decide ((v0.start+v0.cX) > 12622780800)))=true then some 15 else (ef v0.call 0 999999999).bind λy8=>(cG (!(!y8)) (ef v0.part 0 99)).bind λy9=>if ((!y8) || (!y9))=true then some 6 else if (((v0.part==0) != (v0.call==0)) || (v0.last && (v0.part==0)))=true then some 8 else (ef v0.dh 0 999).bind λIj=>if (!Ij)=true then some 6 else if (v0.bL && (v0.dh==0))=true then some 8 else some 0)
def nn (v0:aa):J Int :=
 if (v0.kind==1)=true then (gh v0 604800) else gh v0 1099511627776
def fL (O0:O (O uA)):J ((O uA)×Int) :=
 (OZ O0 ([32]:O uA)).bind λy6=>some (y6,0)
def hC (v0:aa) (yb:O (O uA)) (G4:O uA):J ((O uA)×Int) :=
 (wy v0.dh).bind λy7=>ck (yb.length+([G4,y7]:O (O uA)).length<=1000000000) (fL (yb++([G4,y7]:O (O uA))))
def eN (v0:aa) (yb:O (O uA)):J ((O uA)×Int) :=
 if (v0.dh != 0)=true then (if v0.bL=true then (hC v0 yb ([105,110]:O uA)) else hC v0 yb ([111,117,116]:O uA)) else fL yb
def fM (v0:aa) (tP:O uA):J ((O uA)×Int) :=
 ck (dp (v0.kind-1)) (ck ((0:Int)<=v0.kind-1/\v0.kind-1<=v0.kind/\v0.kind<=(([118,116,100,99]:O uA).length:Int)) ((wy v0.source).bind λy2=>(wy v0.aF).bind λy3=>(wy v0.start).bind λy4=>(wy v0.cX).bind λy5=>if (v0.part != 0)=true then ((wy v0.call).bind λy8=>(wy v0.part).bind λy9=>ck (([(([118,116,100,99]:O uA).take v0.kind.toNat).drop (v0.kind-1).toNat,y2,y3,v0.a,tP,y4,y5]:O (O uA)).length+([([112,97,114,116]:O uA),y8,y9]:O (O uA)).length<=1000000000) (if v0.last=true then (ck ((([(([118,116,100,99]:O uA).take v0.kind.toNat).drop (v0.kind-1).toNat,y2,y3,v0.a,tP,y4,y5]:O (O uA))++([([112,97,114,116]:O uA),y8,y9]:O (O uA))).length+([([108,97,115,116]:O uA)]:O (O uA)).length<=1000000000) (eN v0 ((([(([118,116,100,99]:O uA).take v0.kind.toNat).drop (v0.kind-1).toNat,y2,y3,v0.a,tP,y4,y5]:O (O uA))++([([112,97,114,116]:O uA),y8,y9]:O (O uA)))++([([108,97,115,116]:O uA)]:O (O uA))))) else eN v0 (([(([118,116,100,99]:O uA).take v0.kind.toNat).drop (v0.kind-1).toNat,y2,y3,v0.a,tP,y4,y5]:O (O uA))++([([112,97,114,116]:O uA),y8,y9]:O (O uA))))) else eN v0 ([(([118,116,100,99]:O uA).take v0.kind.toNat).drop (v0.kind-1).toNat,y2,y3,v0.a,tP,y4,y5]:O (O uA))))
def gw (v0:aa):J ((O uA)×Int) :=
 (nn v0).bind λy1=>if (y1 != 0)=true then some (([]:O uA),y1) else if (v0.b==([]:O uA))=true then (fM v0 ([45]:O uA)) else fM v0 v0.b
def iH (fD:Batch) (xe:Int):J (Int ⊕ Int) :=
 if (decide (xe<(fD.records.length:Int)))=true then (ck ((0:Int)<=xe/\xe<(fD.records.length:Int)) ((gw (nth fD.records xe.toNat)).bind λy3=>if (y3.2 != 0)=true then some (.inr y3.2) else if ((nth fD.records xe.toNat).source != fD.source)=true then some (.inr 8) else ck (dp (xe+1)) (some (.inl (xe+1))))) else some (.inr 0)
def qa (fD:Batch):J Int :=
 (rm fD).bind λy1=>(kX y1).bind λy2=>if (y2 != 0)=true then some y2 else loop (λs=>iH fD s) 0
def sr (bD:aG) (bJ:Int) (aI:Int):J (Int ⊕ Int) :=
 if (decide (aI>=0))=true then (ck ((0:Int)<=aI/\aI<(bD.aP.length:Int)) (if (((nth bD.aP aI.toNat).source)==bJ)=true then (ck ((0:Int)<=aI/\aI<(bD.aP.length:Int)) (ck (dp (((nth bD.aP aI.toNat).number)+1)) (some (.inr (((nth bD.aP aI.toNat).number)+1))))) else ck (dp (aI-1)) (some (.inl (aI-1))))) else some (.inr 1)
def iP (bD:aG) (bJ:Int):J Int :=
 if ((decide (bJ<1)) || (decide (bJ > 99)))=true then some 0 else ck (dp ((bD.aP.length:Int) - 1)) (loop (λs=>sr bD bJ s) ((bD.aP.length:Int) - 1))
def kZ (nS:aa) (FZ:bU):J Int :=
 if ((decide (nS.start<FZ.eJ)) || (decide (nS.start > FZ.jl)))=true then some 15 else some 0
def qq (bD:aG):J aG :=
 (gK bD.seen).bind λy1=>(dv bD.open_).bind λy2=>(kW bD.aP).bind λy3=>some (⟨y1,y2,y3⟩:aG)
def eh (iU:Int) (oz:Int):J Bool :=
 some ((((decide (iU>=1)) && (decide (iU<=99))) && (decide (oz>=1))) && (decide (oz<=999999999)))
def kO (uV:Int) (bK:(O Range)) (aX:Int) (aV:Int):J Bool :=
 ck ((0:Int)<=uV/\uV<(bK.length:Int)) (some ((decide ((nth bK uV.toNat).source > aX)) || ((((nth bK uV.toNat).source)==aX) && (decide (((nth bK uV.toNat).kV)>=aV)))))
def jO (bK:(O Range)) (aX:Int) (aV:Int) (aI:Int) (ju:Int):J ((Int×Int) ⊕ Int) :=
 if (decide (aI<ju))=true then (ck (dp (aI+ju)) (ck ((0:Int)<=1) ((kO (IntKind.wrap .i64 (Int.fdiv (IntKind.wrap .u64 (aI+ju)) (2 ^ (min (Int.toNat (1)) 64)))) bK aX aV).bind λy1=>if (!y1)=true then (ck (dp ((IntKind.wrap .i64 (Int.fdiv (IntKind.wrap .u64 (aI+ju)) (2 ^ (min (Int.toNat (1)) 64))))+1)) (some (.inl ((IntKind.wrap .i64 (Int.fdiv (IntKind.wrap .u64 (aI+ju)) (2 ^ (min (Int.toNat (1)) 64))))+1,ju)))) else some (.inl (aI,IntKind.wrap .i64 (Int.fdiv (IntKind.wrap .u64 (aI+ju)) (2 ^ (min (Int.toNat (1)) 64)))))))) else some (.inr aI)
def lL (AP:Int) (bK:(O Range)) (aX:Int) (aV:Int):J Int :=
 loop (λs=>jO bK aX aV s.1 s.2) (0,AP)
def qb (aZ:O Range) (bJ:Int) (cY:Int):J Int :=
 (lL (aZ.length:Int) aZ bJ cY).bind λy1=>some y1
def oA (aZ:O Range) (bJ:Int) (cY:Int):J Bool :=
 (qb aZ bJ cY).bind λy1=>(eh bJ cY).bind λy2=>ck ((y2 && (decide (y1<(aZ.length:Int))))=true->((0:Int)<=y1/\y1<(aZ.length:Int))) (ck (((y2 && (decide (y1<(aZ.length:Int)))) && (((nth aZ y1.toNat).source)==bJ))=true->((0:Int)<=y1/\y1<(aZ.length:Int))) (some (((y2 && (decide (y1<(aZ.length:Int)))) && (((nth aZ y1.toNat).source)==bJ)) && (decide (((nth aZ y1.toNat).from_)<=cY)))))
def nG (gx:Range) (iA:Range):J Bool :=
 ck ((gx.source==iA.source)=true->(dp (gx.kV+1))) (some ((gx.source==iA.source) && ((gx.kV+1)==iA.from_)))
def mo (uV:Int) (ue:Int) (aX:(O aa)) (aY:O ai):J (O ai) :=
 ck ((0:Int)<=uV/\uV<(aX.length:Int)) (ck ((0:Int)<=uV/\uV<(aX.length:Int)) (ck (aY.length+([(⟨(nth aX uV.toNat).source,(nth aX uV.toNat).aF,uV,ue⟩:ai)]:O ai).length<=1000000000) (some (aY++([(⟨(nth aX uV.toNat).source,(nth aX uV.toNat).aF,uV,ue⟩:ai)]:O ai)))))
def jZ (uV:Int) (aX:Int) (aV:Int) (aY:O Range):J Bool :=
 ck ((0:Int)<=uV/\uV<(aY.length:Int)) (ck (uV.toNat<aY.length) (some ((decide ((nth aY uV.toNat).source > aX)) || ((((nth aY uV.toNat).source)==aX) && (decide (((nth aY uV.toNat).kV)>=aV))))))
def lX (aX:Int) (aV:Int) (aY:O Range) (aI:Int) (ju:Int):J ((Int×Int) ⊕ Int) :=
 if (decide (aI<ju))=true then (ck (dp (aI+ju)) (ck ((0:Int)<=1) ((jZ (IntKind.wrap .i64 (Int.fdiv (IntKind.wrap .u64 (aI+ju)) (2 ^ (min (Int.toNat (1)) 64)))) aX aV aY).bind λy1=>if (!y1)=true then (ck (dp ((IntKind.wrap .i64 (Int.fdiv (IntKind.wrap .u64 (aI+ju)) (2 ^ (min (Int.toNat (1)) 64))))+1)) (some (.inl ((IntKind.wrap .i64 (Int.fdiv (IntKind.wrap .u64 (aI+ju)) (2 ^ (min (Int.toNat (1)) 64))))+1,ju)))) else some (.inl (aI,IntKind.wrap .i64 (Int.fdiv (IntKind.wrap .u64 (aI+ju)) (2 ^ (min (Int.toNat (1)) 64)))))))) else some (.inr aI)
def mq (AP:Int) (aX:Int) (aV:Int) (aY:O Range):J Int :=
 loop (λs=>lX aX aV aY s.1 s.2) (0,AP)
def jJ (bJ:Int) (cY:Int) (aY:O Range):J Int :=
 (mq (aY.length:Int) bJ cY aY).bind λy1=>some y1
def ti (bJ:Int) (cY:Int) (aY:O Range):J Bool :=
 (jJ bJ cY aY).bind λy1=>(eh bJ cY).bind λy2=>ck ((y2 && (decide (y1<(aY.length:Int))))=true->((0:Int)<=y1/\y1<(aY.length:Int))) (ck ((y2 && (decide (y1<(aY.length:Int))))=true->(y1.toNat<aY.length)) (ck (((y2 && (decide (y1<(aY.length:Int)))) && (((nth aY y1.toNat).source)==bJ))=true->((0:Int)<=y1/\y1<(aY.length:Int))) (ck (((y2 && (decide (y1<(aY.length:Int)))) && (((nth aY y1.toNat).source)==bJ))=true->(y1.toNat<aY.length)) (some (((y2 && (decide (y1<(aY.length:Int)))) && (((nth aY y1.toNat).source)==bJ)) && (decide (((nth aY y1.toNat).from_)<=cY)))))))
def gL (y1:Int) (fA:O Range):J (O Range) :=
 ck ((decide (y1 > 0))=true->(dp (y1-1))) (ck ((decide (y1 > 0))=true->((0:Int)<=(y1-1)/\(y1-1)<(fA.length:Int))) (ck ((decide (y1 > 0))=true->((y1-1).toNat<fA.length)) (ck ((decide (y1 > 0))=true->((0:Int)<=y1/\y1<(fA.length:Int))) (ck ((decide (y1 > 0))=true->(y1.toNat<fA.length)) ((cG (decide (y1 > 0)) (nG (nth fA (y1-1).toNat) (nth fA y1.toNat))).bind λy3=>if ((decide (y1 > 0)) && y3)=true then (ck (dp (y1-1)) (ck ((0:Int)<=y1/\y1<(fA.length:Int)) (ck (y1.toNat<fA.length) (ck ((0:Int)<=(y1-1)/\(y1-1)<(fA.length:Int)) (ck ((y1-1).toNat<fA.length) (ck (dp (y1+1)) ((pZ y1 (y1+1) (fA.set (y1-1).toNat (⟨(nth fA (y1-1).toNat).source,(nth fA (y1-1).toNat).from_,(nth fA y1.toNat).kV⟩:Range))).bind λy4=>some y4))))))) else some fA)))))
def iV (v1:Int) (v2:Int) (aY:O Range):J (O Range) :=
 (jJ v1 v2 aY).bind λy1=>(sP y1 aY ([(⟨v1,v2,v2⟩:Range)]:O Range)).bind λy2=>ck (dp (y1+1)) (ck ((decide ((y1+1)<(y2.length:Int)))=true->((0:Int)<=y1/\y1<(y2.length:Int))) (ck ((decide ((y1+1)<(y2.length:Int)))=true->(y1.toNat<y2.length)) (ck ((decide ((y1+1)<(y2.length:Int)))=true->(dp (y1+1))) (ck ((decide ((y1+1)<(y2.length:Int)))=true->((0:Int)<=(y1+1)/\(y1+1)<(y2.length:Int))) (ck ((decide ((y1+1)<(y2.length:Int)))=true->((y1+1).toNat<y2.length)) ((cG (decide ((y1+1)<(y2.length:Int))) (nG (nth y2 y1.toNat) (nth y2 (y1+1).toNat))).bind λy5=>if ((decide ((y1+1)<(y2.length:Int))) && y5)=true then (ck (dp (y1+1)) (ck ((0:Int)<=(y1+1)/\(y1+1)<(y2.length:Int)) (ck ((y1+1).toNat<y2.length) (ck ((0:Int)<=y1/\y1<(y2.length:Int)) (ck (y1.toNat<y2.length) (ck (dp (y1+1)) (ck (dp (y1+2)) ((pZ (y1+1) (y1+2) (y2.set y1.toNat (⟨(nth y2 y1.toNat).source,(nth y2 y1.toNat).from_,(nth y2 (y1+1).toNat).kV⟩:Range))).bind λy6=>gL y1 y6)))))))) else gL y1 y2))))))
def lf (E6:O Range) (yc:O aa) (eZ:O ai):J ((O Range)×(O aa)×(O ai)) :=
 some (E6,yc,eZ)
def nT (cq:O aa) (bd:O Range) (ku:O aa) (dM:Int) (ca:O ai):J ((O Range×O aa×Int×O ai) ⊕ ((O Range)×(O aa)×(O ai))) :=
 if (decide (dM<(cq.length:Int)))=true then (ck ((0:Int)<=dM/\dM<(cq.length:Int)) ((eh (nth cq dM.toNat).source (nth cq dM.toNat).aF).bind λy2=>if (!y2)=true then ((mo dM 6 cq ca).bind λy3=>ck (dp (dM+1)) (some (.inl (bd,ku,dM+1,y3)))) else (ti (nth cq dM.toNat).source (nth cq dM.toNat).aF bd).bind λy4=>if y4=true then ((mo dM 13 cq ca).bind λy5=>ck (dp (dM+1)) (some (.inl (bd,ku,dM+1,y5)))) else (iV (nth cq dM.toNat).source (nth cq dM.toNat).aF bd).bind λy6=>ck (ku.length+([nth cq dM.toNat]:O aa).length<=1000000000) (ck (dp (dM+1)) (some (.inl (y6,ku++([nth cq dM.toNat]:O aa),dM+1,ca)))))) else (lf bd ku ca).map (λz=>.inr z)
def oB (aZ:O Range) (cq:O aa):J ((O Range)×(O aa)×(O ai)) :=
 (gK aZ).bind λy1=>loop (λs=>nT cq s.1 s.2.1 s.2.2.1 s.2.2.2) (y1,([]:O aa),0,([]:O ai))
def np (Ly:Int):J Bool :=
 some (Ly != Ly)
def gM (Ly:Int) (v1y:Int):J Int :=
 (np Ly).bind λy1=>(np v1y).bind λy2=>if y1=true then (if y2=true then some 0 else some (-1)) else if y2=true then some 1 else if (decide (Ly<v1y))=true then some (-1) else if (decide (Ly > v1y))=true then some 1 else some 0
def qs (sv:O Int) (aW:Int):J (Int ⊕ Int) :=
 if (decide (aW<(sv.length:Int)))=true then (ck ((0:Int)<=aW/\aW<(sv.length:Int)) (if ((nth sv aW.toNat) != 0)=true then some (.inr (nth sv aW.toNat)) else ck (dp (aW+1)) (some (.inl (aW+1))))) else some (.inr 0)
def rp (sv:O Int):J Int :=
 loop (λs=>qs sv s) 0
def j0 (gx:aa) (iA:aa):J Int :=
 (gM gx.source iA.source).bind λy1=>(gM gx.call iA.call).bind λy2=>(gM gx.part iA.part).bind λy3=>(rp ([y1,y2,y3]:O Int)).bind λy4=>some y4
def cg (nS:aa):J aK :=
 some (⟨nS.source,nS.call⟩:aK)
def iI (nS:aa) (bK:aK):J Bool :=
 (cg nS).bind λy1=>some (et (aK.bM y1) (aK.bM bK))
def qt (bV:O aa) (bK:aK) (aW:Int):J (Int ⊕ Int) :=
 if (decide (aW<(bV.length:Int)))=true then (ck ((0:Int)<=aW/\aW<(bV.length:Int)) ((iI (nth bV aW.toNat) bK).bind λy1=>if y1=true then some (.inr aW) else ck (dp (aW+1)) (some (.inl (aW+1))))) else some (.inr (-1))
def rq (bV:O aa) (bK:aK):J Int :=
 loop (λs=>qt bV bK s) 0
def lY (bz:O aa) (D6:aK) (y1:Int) (eS:Int):J (Int ⊕ (Int×Int)) :=
 ck ((decide (eS<(bz.length:Int)))=true->((0:Int)<=eS/\eS<(bz.length:Int))) ((cG (decide (eS<(bz.length:Int))) (cg (nth bz eS.toNat))).bind λy2=>if ((decide (eS<(bz.length:Int))) && (et (aK.bM y2) (aK.bM D6)))=true then (ck (dp (eS+1)) (some (.inl (eS+1)))) else some (.inr (y1,eS)))
def mr (bz:O aa) (D6:aK):J (Int×Int) :=
 (rq bz D6).bind λy1=>if (decide (y1<0))=true then some (0,0) else loop (λs=>lY bz D6 y1 s) y1
def ir (au:O aa) (fB:Bool) (bQ:O (Int×Int)) (fT:O Int) (dW:Int):J ((O Int×Int) ⊕ (O Int)) :=
 if (!(aC bQ dW).isSome)=true then some (.inr fT) else ck (fT.length+([(aC bQ dW).getD 0]:O Int).length<=1000000000) (ck (fB=true->((0:Int)<=((aC bQ dW).getD 0)/\((aC bQ dW).getD 0)<(au.length:Int))) (if (fB && (nth au ((aC bQ dW).getD 0).toNat).last)=true then some (.inr (fT++([(aC bQ dW).getD 0]:O Int))) else ck (dp (dW+1)) (some (.inl (fT++([(aC bQ dW).getD 0]:O Int),dW+1)))))
def fE (au:O aa) (fB:Bool) (bQ:O (Int×Int)):J (O Int) :=
 loop (λs=>ir au fB bQ s.1 s.2) (([]:O Int),1)
def iu (au:O aa) (fB:Bool) (dX:Int) (cN:O (Int×Int)):J ((Int×(O (Int×Int))) ⊕ (O Int)) :=
 if (decide (dX<(au.length:Int)))=true then (ck ((0:Int)<=dX/\dX<(au.length:Int)) (if (!(aC cN (nth au dX.toNat).part).isSome)=true then (ck (dp (dX+1)) (some (.inl (dX+1,dm cN (nth au dX.toNat).part dX)))) else ck (dp (dX+1)) (some (.inl (dX+1,cN))))) else (fE au fB cN).map (λz=>.inr z)
def gN (au:O aa) (fB:Bool):J (O Int) :=
 loop (λs=>iu au fB s.1 s.2) (0,([]:O (Int×Int)))
def jv (au:O aa) (dr:O aa) (bQ:O (Int×Bool)) (dH:O aa) (fb:Int):J ((O aa×Int) ⊕ ((O aa)×(O aa))) :=
 if (decide (fb<(au.length:Int)))=true then (ck ((0:Int)<=fb/\fb<(au.length:Int)) (if (!((aC bQ fb).getD false))=true then (ck (dH.length+([nth au fb.toNat]:O aa).length<=1000000000) (ck (dp (fb+1)) (some (.inl (dH++([nth au fb.toNat]:O aa),fb+1))))) else ck (dp (fb+1)) (some (.inl (dH,fb+1))))) else some (.inr (dr,dH))
def jw (au:O aa) (dr:O aa) (bQ:O (Int×Bool)):J ((O aa)×(O aa)) :=
 loop (λs=>jv au dr bQ s.1 s.2) (([]:O aa),0)
def lZ (au:O aa) (gG:O Int) (dB:O aa) (fc:Int) (cN:O (Int×Bool)):J ((O aa×Int×(O (Int×Bool))) ⊕ ((O aa)×(O aa))) :=
 if (decide (fc<(gG.length:Int)))=true then (ck ((0:Int)<=fc/\fc<(gG.length:Int)) (ck ((0:Int)<=(nth gG fc.toNat)/\(nth gG fc.toNat)<(au.length:Int)) (ck (dB.length+([nth au (nth gG fc.toNat).toNat]:O aa).length<=1000000000) (ck (dp (fc+1)) (some (.inl (dB++([nth au (nth gG fc.toNat).toNat]:O aa),fc+1,dm cN (nth gG fc.toNat) true))))))) else (jw au dB cN).map (λz=>.inr z)
def jP (au:O aa) (gG:O Int):J ((O aa)×(O aa)) :=
 loop (λs=>lZ au gG s.1 s.2.1 s.2.2) (([]:O aa),0,([]:O (Int×Bool)))
def je (nS:aa):J aa :=
 some (⟨nS.source,nS.aF,nS.kind,nS.a,nS.b,nS.start,nS.cX,0,0,false,nS.dh,nS.bL⟩:aa)
def ei (nS:aa):J Int :=
 (gw nS).bind λy1=>some y1.2
def iW (nS:aa):J bH :=
 (cg nS).bind λy1=>some (⟨y1,nS.kind,nS.a,nS.b,nS.dh,nS.bL⟩:bH)
def iX (y1:aa) (lM:Int):J (aa×Bool) :=
 (ei (⟨y1.source,y1.aF,y1.kind,y1.a,y1.b,y1.start,lM,y1.call,y1.part,y1.last,y1.dh,y1.bL⟩:aa)).bind λy2=>if (y2 != 0)=true then some ((⟨0,0,0,([]:O uA),([]:O uA),0,0,0,0,false,0,false⟩:aa),false) else some ((⟨y1.source,y1.aF,y1.kind,y1.a,y1.b,y1.start,lM,y1.call,y1.part,y1.last,y1.dh,y1.bL⟩:aa),true)
def lg (au:O aa) (y1:aa) (dM:Int) (gi:Int):J ((Int×Int) ⊕ (aa×Bool)) :=
 if (decide (dM<(au.length:Int)))=true then (ck ((0:Int)<=dM/\dM<(au.length:Int)) ((cG (!(((nth au dM.toNat).part)==0)) (ei (nth au dM.toNat))).bind λy3=>(cG (!((((nth au dM.toNat).part)==0) || (y3 != 0))) (iW (nth au dM.toNat))).bind λy4=>ck ((!((((nth au dM.toNat).part)==0) || (y3 != 0)))=true->((0:Int)<=0/\0<(au.length:Int))) ((cG (!((((nth au dM.toNat).part)==0) || (y3 != 0))) (iW (nth au (Int.toNat (0))))).bind λy5=>ck ((!(((((nth au dM.toNat).part)==0) || (y3 != 0)) || (!(et (bH.bM y4) (bH.bM y5)))))=true->(dp (1099511627776-gi))) (if ((((((nth au dM.toNat).part)==0) || (y3 != 0)) || (!(et (bH.bM y4) (bH.bM y5)))) || (decide ((nth au dM.toNat).cX > (1099511627776-gi))))=true then some (.inr ((⟨0,0,0,([]:O uA),([]:O uA),0,0,0,0,false,0,false⟩:aa),false)) else ck (dp (gi+((nth au dM.toNat).cX))) (ck (dp (dM+1)) (some (.inl (dM+1,gi+((nth au dM.toNat).cX))))))))) else (iX y1 gi).map (λz=>.inr z)
def gO (au:O aa):J (aa×Bool) :=
 if ((au.length:Int)==0)=true then some ((⟨0,0,0,([]:O uA),([]:O uA),0,0,0,0,false,0,false⟩:aa),false) else ck ((0:Int)<=0/\0<(au.length:Int)) ((je (nth au (Int.toNat (0)))).bind λy1=>loop (λs=>lg au y1 s.1 s.2) (0,0))
def gz (au:O aa):J (aa×Bool) :=
 (gO au).bind λy1=>some (y1.1,y1.2)
def jf (au:O aa) (aW:Int):J (Int ⊕ (aa×Bool)) :=
 if (decide (aW<(au.length:Int)))=true then (ck ((0:Int)<=aW/\aW<(au.length:Int)) (ck (dp (aW+1)) (ck ((!((nth au aW.toNat).part != (aW+1)))=true->(dp ((au.length:Int) - 1))) (if (((nth au aW.toNat).part != (aW+1)) || ((nth au aW.toNat).last != (aW==((au.length:Int) - 1))))=true then some (.inr ((⟨0,0,0,([]:O uA),([]:O uA),0,0,0,0,false,0,false⟩:aa),false)) else ck (dp (aW+1)) (some (.inl (aW+1))))))) else (gz au).map (λz=>.inr z)
def iY (au:O aa):J (aa×Bool) :=
 loop (λs=>jf au s) 0
def mW (bK:aK) (aY:O aa) (aW:Int):J (Int ⊕ Int) :=
 if (decide (aW<(aY.length:Int)))=true then (ck ((0:Int)<=aW/\aW<(aY.length:Int)) (ck (aW.toNat<aY.length) ((iI (nth aY aW.toNat) bK).bind λy1=>if y1=true then some (.inr aW) else ck (dp (aW+1)) (some (.inl (aW+1)))))) else some (.inr (-1))
def nq (bK:aK) (aY:O aa):J Int :=
 loop (λs=>mW bK aY s) 0
def l7 (D6:aK) (aY:O aa) (y1:Int) (eS:Int):J (Int ⊕ (Int×Int)) :=
 ck ((decide (eS<(aY.length:Int)))=true->((0:Int)<=eS/\eS<(aY.length:Int))) (ck ((decide (eS<(aY.length:Int)))=true->(eS.toNat<aY.length)) ((cG (decide (eS<(aY.length:Int))) (cg (nth aY eS.toNat))).bind λy2=>if ((decide (eS<(aY.length:Int))) && (et (aK.bM y2) (aK.bM D6)))=true then (ck (dp (eS+1)) (some (.inl (eS+1)))) else some (.inr (y1,eS))))
def mu (D6:aK) (aY:O aa):J (Int×Int) :=
 (nq D6 aY).bind λy1=>if (decide (y1<0))=true then some (0,0) else loop (λs=>l7 D6 aY y1 s) y1
def iv (au:O aa) (fB:Bool) (bQ:O (Int×Int)) (fT:O Int) (dW:Int):J ((O Int×Int) ⊕ (O Int)) :=
 if (!(aC bQ dW).isSome)=true then some (.inr fT) else ck (fT.length+([(aC bQ dW).getD 0]:O Int).length<=1000000000) (ck (fB=true->((0:Int)<=((aC bQ dW).getD 0)/\((aC bQ dW).getD 0)<(au.length:Int))) (ck (fB=true->(((aC bQ dW).getD 0).toNat<au.length)) (if (fB && (nth au ((aC bQ dW).getD 0).toNat).last)=true then some (.inr (fT++([(aC bQ dW).getD 0]:O Int))) else ck (dp (dW+1)) (some (.inl (fT++([(aC bQ dW).getD 0]:O Int),dW+1))))))
def fF (au:O aa) (fB:Bool) (bQ:O (Int×Int)):J (O Int) :=
 loop (λs=>iv au fB bQ s.1 s.2) (([]:O Int),1)
def iw (au:O aa) (fB:Bool) (dX:Int) (cN:O (Int×Int)):J ((Int×(O (Int×Int))) ⊕ (O Int)) :=
 if (decide (dX<(au.length:Int)))=true then (ck ((0:Int)<=dX/\dX<(au.length:Int)) (ck (dX.toNat<au.length) (if (!(aC cN (nth au dX.toNat).part).isSome)=true then (ck (dp (dX+1)) (some (.inl (dX+1,dm cN (nth au dX.toNat).part dX)))) else ck (dp (dX+1)) (some (.inl (dX+1,cN)))))) else (fF au fB cN).map (λz=>.inr z)
def gQ (au:O aa) (fB:Bool):J (O Int) :=
 loop (λs=>iw au fB s.1 s.2) (0,([]:O (Int×Int)))
def jx (au:O aa) (dr:O aa) (bQ:O (Int×Bool)) (dH:O aa) (fb:Int):J ((O aa×Int) ⊕ ((O aa)×(O aa))) :=
 if (decide (fb<(au.length:Int)))=true then (ck ((0:Int)<=fb/\fb<(au.length:Int)) (ck (fb.toNat<au.length) (if (!((aC bQ fb).getD false))=true then (ck (dH.length+([nth au fb.toNat]:O aa).length<=1000000000) (ck (dp (fb+1)) (some (.inl (dH++([nth au fb.toNat]:O aa),fb+1))))) else ck (dp (fb+1)) (some (.inl (dH,fb+1)))))) else some (.inr (dr,dH))
def jy (au:O aa) (dr:O aa) (bQ:O (Int×Bool)):J ((O aa)×(O aa)) :=
 loop (λs=>jx au dr bQ s.1 s.2) (([]:O aa),0)
def l8 (au:O aa) (gG:O Int) (dB:O aa) (fc:Int) (cN:O (Int×Bool)):J ((O aa×Int×(O (Int×Bool))) ⊕ ((O aa)×(O aa))) :=
 if (decide (fc<(gG.length:Int)))=true then (ck ((0:Int)<=fc/\fc<(gG.length:Int)) (ck ((0:Int)<=(nth gG fc.toNat)/\(nth gG fc.toNat)<(au.length:Int)) (ck ((nth gG fc.toNat).toNat<au.length) (ck (dB.length+([nth au (nth gG fc.toNat).toNat]:O aa).length<=1000000000) (ck (dp (fc+1)) (some (.inl (dB++([nth au (nth gG fc.toNat).toNat]:O aa),fc+1,dm cN (nth gG fc.toNat) true)))))))) else (jy au dB cN).map (λz=>.inr z)
def mv (au:O aa) (gG:O Int):J ((O aa)×(O aa)) :=
 loop (λs=>l8 au gG s.1 s.2.1 s.2.2) (([]:O aa),0,([]:O (Int×Bool)))
def gR (F0:aK) (lQ:O aa) (jg:O aa):J ((O aa×O aa) ⊕ ((O aa)×(O aa))) :=
 (mu F0 lQ).bind λy1=>ck ((0:Int)<=y1.1/\y1.1<=y1.2/\y1.2<=(lQ.length:Int)) (ck ((0:Int)<=y1.1/\y1.1<=y1.2/\y1.2<=(lQ.length:Int)) ((gQ ((lQ.take y1.2.toNat).drop y1.1.toNat) true).bind λy2=>(mv ((lQ.take y1.2.toNat).drop y1.1.toNat) y2).bind λy3=>(iY y3.1).bind λy4=>if (!y4.2)=true then some (.inr (lQ,jg)) else (tO y1.1 y1.2 y3.2 lQ).bind λy5=>ck (jg.length+([y4.1]:O aa).length<=1000000000) (some (.inl (y5,jg++([y4.1]:O aa))))))
def jz (F0:aK) (aY:O aa) (iZ:O aa):J ((O aa)×(O aa)) :=
 loop (λs=>gR F0 s.1 s.2) (aY,iZ)
def hG (aU:O aa) (bd:O aa) (ch:O aa) (eu:Int) (Ap:Int):J ((O aa×O aa×Int) ⊕ ((O aa)×(O aa))) :=
 (re Ap bd ([nth aU eu.toNat]:O aa)).bind λy2=>(cg (nth aU eu.toNat)).bind λy3=>(jz y3 y2 ch).bind λy4=>ck (dp (eu+1)) (some (.inl (y4.1,y4.2,eu+1)))
def jA (aU:O aa) (bd:O aa) (ch:O aa) (eu:Int) (iQ:Int):J (Int ⊕ ((O aa×O aa×Int) ⊕ ((O aa)×(O aa)))) :=
 ck ((decide (iQ<(bd.length:Int)))=true->((0:Int)<=iQ/\iQ<(bd.length:Int))) (ck ((decide (iQ<(bd.length:Int)))=true->(iQ.toNat<bd.length)) ((cG (decide (iQ<(bd.length:Int))) (j0 (nth bd iQ.toNat) (nth aU eu.toNat))).bind λy5=>if ((decide (iQ<(bd.length:Int))) && (decide (y5<=0)))=true then (ck (dp (iQ+1)) (some (.inl (iQ+1)))) else (hG aU bd ch eu iQ).map (λz=>.inr z)))
def l9 (aU:O aa) (bd:O aa) (ch:O aa) (eu:Int):J ((O aa×O aa×Int) ⊕ ((O aa)×(O aa))) :=
 if (decide (eu<(aU.length:Int)))=true then (ck ((0:Int)<=eu/\eu<(aU.length:Int)) (if (((nth aU eu.toNat).part)==0)=true then (ck (ch.length+([nth aU eu.toNat]:O aa).length<=1000000000) (ck (dp (eu+1)) (some (.inl (bd,ch++([nth aU eu.toNat]:O aa),eu+1))))) else loop (λs=>jA aU bd ch eu s) 0)) else some (.inr (ch,bd))
def jQ (bz:O aa) (aU:O aa):J ((O aa)×(O aa)) :=
 (dv bz).bind λy1=>loop (λs=>l9 aU s.1 s.2.1 s.2.2) (y1,([]:O aa),0)
def iJ (cQ:O aa) (FZ:bU) (dn:O ai) (sw:O Int) (bw:Int):J ((O ai×O Int×Int) ⊕ ((O Int)×(O ai))) :=
 if (decide (bw<(cQ.length:Int)))=true then (ck ((0:Int)<=bw/\bw<(cQ.length:Int)) ((kZ (nth cQ bw.toNat) FZ).bind λy1=>if (y1 != 0)=true then (ck (dn.length+([(⟨(nth cQ bw.toNat).source,(nth cQ bw.toNat).aF,bw,y1⟩:ai)]:O ai).length<=1000000000) (ck (dp (bw+1)) (some (.inl (dn++([(⟨(nth cQ bw.toNat).source,(nth cQ bw.toNat).aF,bw,y1⟩:ai)]:O ai),sw,bw+1))))) else ck (sw.length+([bw]:O Int).length<=1000000000) (ck (dp (bw+1)) (some (.inl (dn,sw++([bw]:O Int),bw+1)))))) else some (.inr (sw,dn))
def nr (cQ:O aa) (FZ:bU):J ((O Int)×(O ai)) :=
 loop (λs=>iJ cQ FZ s.1 s.2.1 s.2.2) (([]:O ai),([]:O Int),0)
def qu (bD:aG):J ((O Range)×(O aa)×(O Head)) :=
 (gK bD.seen).bind λy1=>(dv bD.open_).bind λy2=>(kW bD.aP).bind λy3=>some (y1,y2,y3)
def gj (v1:Batch) (y4:(O Range)×(O aa)×(O Head)) (y5:(O Range)×(O aa)×(O ai)) (E7:O ai):J (aG×(O aa)×(O ai)×Int) :=
 (ux E7).bind λy6=>(jQ y4.2.1 y5.2.1).bind λy7=>ck (y4.2.2.length+([(⟨v1.source,v1.number,v1.format,(v1.records.length:Int)⟩:Head)]:O Head).length<=1000000000) (some ((⟨y5.1,y7.2,y4.2.2++([(⟨v1.source,v1.number,v1.format,(v1.records.length:Int)⟩:Head)]:O Head)⟩:aG),y7.1,y6,0))
def j4 (v1:Batch) (y3:(O Int)×(O ai)) (y4:(O Range)×(O aa)×(O Head)) (y5:(O Range)×(O aa)×(O ai)) (bd:O ai) (ic:Int):J ((O ai×Int) ⊕ (aG×(O aa)×(O ai)×Int)) :=
 if (decide (ic<(y5.2.2.length:Int)))=true then (ck ((0:Int)<=ic/\ic<(y5.2.2.length:Int)) (ck ((0:Int)<=((nth y5.2.2 ic.toNat).index)/\((nth y5.2.2 ic.toNat).index)<(y3.1.length:Int)) (ck (bd.length+([(⟨(nth y5.2.2 ic.toNat).source,(nth y5.2.2 ic.toNat).aF,nth y3.1 ((nth y5.2.2 ic.toNat).index).toNat,(nth y5.2.2 ic.toNat).err⟩:ai)]:O ai).length<=1000000000) (ck (dp (ic+1)) (some (.inl (bd++([(⟨(nth y5.2.2 ic.toNat).source,(nth y5.2.2 ic.toNat).aF,nth y3.1 ((nth y5.2.2 ic.toNat).index).toNat,(nth y5.2.2 ic.toNat).err⟩:ai)]:O ai),ic+1))))))) else (gj v1 y4 y5 bd).map (λz=>.inr z)
def gl (v0:aG) (v1:Batch) (y3:(O Int)×(O ai)) (mM:O aa):J (aG×(O aa)×(O ai)×Int) :=
 (qu v0).bind λy4=>(oB y4.1 mM).bind λy5=>loop (λs=>j4 v1 y3 y4 y5 s.1 s.2) (y3.2,0)
def j5 (v0:aG) (v1:Batch) (y3:(O Int)×(O ai)) (Bm:O aa) (rV:Int):J ((O aa×Int) ⊕ (aG×(O aa)×(O ai)×Int)) :=
 if (decide (rV<(y3.1.length:Int)))=true then (ck ((0:Int)<=rV/\rV<(y3.1.length:Int)) (ck ((0:Int)<=(nth y3.1 rV.toNat)/\(nth y3.1 rV.toNat)<(v1.records.length:Int)) (ck (Bm.length+([nth v1.records (nth y3.1 rV.toNat).toNat]:O aa).length<=1000000000) (ck (dp (rV+1)) (some (.inl (Bm++([nth v1.records (nth y3.1 rV.toNat).toNat]:O aa),rV+1))))))) else (gl v0 v1 y3 Bm).map (λz=>.inr z)
def nt (v0:aG) (v1:Batch) (v2:bU):J (aG×(O aa)×(O ai)×Int) :=
 (qa v1).bind λy1=>if (y1 != 0)=true then some ((⟨([]:O Range),([]:O aa),([]:O Head)⟩:aG),([]:O aa),([]:O ai),y1) else (iP v0 v1.source).bind λy2=>if (v1.number != y2)=true then some ((⟨([]:O Range),([]:O aa),([]:O Head)⟩:aG),([]:O aa),([]:O ai),20) else (nr v1.records v2).bind λy3=>loop (λs=>j5 v0 v1 y3 s.1 s.2) (([]:O aa),0)
def gS (bV:dQ):J (O uA) :=
 if bV.record.bL=true then some bV.record.b else some bV.record.a
def fe (aQ:O Int) (tI:Int) (ct:Int):J (O Int) :=
 ck ((0:Int)<=ct/\ct<=(aQ.length:Int)) (ck ((aQ.take ct.toNat).length<=1000000000) (ck ((aQ.take ct.toNat).length+([tI]:O Int).length<=1000000000) (ck ((0:Int)<=ct/\ct<=(aQ.length:Int)) (ck (((aQ.take ct.toNat)++([tI]:O Int)).length+(aQ.drop ct.toNat).length<=1000000000) (some (((aQ.take ct.toNat)++([tI]:O Int))++(aQ.drop ct.toNat)))))))
def mw (aQ:O Int) (tI:Int) (dq:Int):J (Int ⊕ (O Int)) :=
 ck ((decide (dq<(aQ.length:Int)))=true->((0:Int)<=dq/\dq<(aQ.length:Int))) (if ((decide (dq<(aQ.length:Int))) && (decide ((nth aQ dq.toNat)<tI)))=true then (ck (dp (dq+1)) (some (.inl (dq+1)))) else (fe aQ tI dq).map (λz=>.inr z))
def gA (aQ:O Int) (tI:Int):J (O Int) :=
 loop (λs=>mw aQ tI s) 0
def ek (aQ:O (O uA)) (tI:O uA) (ct:Int):J (O (O uA)) :=
 ck ((0:Int)<=ct/\ct<=(aQ.length:Int)) (ck ((aQ.take ct.toNat).length<=1000000000) (ck ((aQ.take ct.toNat).length+([tI]:O (O uA)).length<=1000000000) (ck ((0:Int)<=ct/\ct<=(aQ.length:Int)) (ck (((aQ.take ct.toNat)++([tI]:O (O uA))).length+(aQ.drop ct.toNat).length<=1000000000) (some (((aQ.take ct.toNat)++([tI]:O (O uA)))++(aQ.drop ct.toNat)))))))
def j6 (aQ:O (O uA)) (tI:O uA) (dq:Int):J (Int ⊕ (O (O uA))) :=
 ck ((decide (dq<(aQ.length:Int)))=true->((0:Int)<=dq/\dq<(aQ.length:Int))) (if ((decide (dq<(aQ.length:Int))) && (pM (nth aQ dq.toNat) tI))=true then (ck (dp (dq+1)) (some (.inl (dq+1)))) else (ek aQ tI dq).map (λz=>.inr z))
def ff (aQ:O (O uA)) (tI:O uA):J (O (O uA)) :=
 loop (λs=>j6 aQ tI s) 0
def oC (aQ:O (O uA)) (tI:O uA) (cO:O (O uA)) (bq:Int):J ((O (O uA)×Int) ⊕ (O (O uA))) :=
 if (decide (bq<(aQ.length:Int)))=true then (ck ((0:Int)<=bq/\bq<(aQ.length:Int)) (if ((nth aQ bq.toNat) != tI)=true then (ck (cO.length+([nth aQ bq.toNat]:O (O uA)).length<=1000000000) (ck (dp (bq+1)) (some (.inl (cO++([nth aQ bq.toNat]:O (O uA)),bq+1))))) else ck (dp (bq+1)) (some (.inl (cO,bq+1))))) else some (.inr cO)
def jh (aQ:O (O uA)) (tI:O uA):J (O (O uA)) :=
 loop (λs=>oC aQ tI s.1 s.2) (([]:O (O uA)),0)
def pn:J ((O (Int×aq))×(O (Int×Sub))×(O (Int×Bool))×(O ((O uA)×Int))×(O (Int×Int))) :=
 some (([]:O (Int×aq)),([]:O (Int×Sub)),([]:O (Int×Bool)),([]:O ((O uA)×Int)),([]:O (Int×Int)))
def qw (aw:O Event) (Cm:Int):J ((O Event)×Int) :=
 some (aw,Cm)
def fU (v1:Sub) (v2:Event) (bB:O Int) (bl:O Int) (aX:O (Int×aq)) (aV:O (Int×Sub)) (b9:O (Int×Bool)) (cC:O ((O uA)×Int)) (bR:O (Int×Int)):J (Sub×(O ((O uA)×Int))) :=
 if (v2.kind==5)=true then ((ff v1.numbers v2.number).bind λy1=>some ((⟨v1.id,v1.az,v1.since,v1.xb,y1,v1.cJ,v1.bY,v1.family⟩:Sub),dm cC v2.number v2.sub)) else if (v2.kind==6)=true then ((jh v1.numbers v2.number).bind λy2=>some ((⟨v1.id,v1.az,v1.since,v1.xb,y2,v1.cJ,v1.bY,v1.family⟩:Sub),gg cC v2.number)) else if (v2.kind==7)=true then some ((⟨v1.id,v1.az,v1.since,v2.name,v1.numbers,v1.cJ,v1.bY,v1.family⟩:Sub),cC) else if (v2.kind==8)=true then ((ff v1.cJ v2.name).bind λy3=>some ((⟨v1.id,v1.az,v1.since,v1.xb,v1.numbers,y3,v1.bY,v1.family⟩:Sub),cC)) else if (v2.kind==9)=true then ((jh v1.cJ v2.name).bind λy4=>some ((⟨v1.id,v1.az,v1.since,v1.xb,v1.numbers,y4,v1.bY,v1.family⟩:Sub),cC)) else if (v2.kind==10)=true then some ((⟨v1.id,v1.az,v1.since,v1.xb,v1.numbers,v1.cJ,true,v1.family⟩:Sub),cC) else if (v2.kind==11)=true then some ((⟨v1.id,v1.az,v1.since,v1.xb,v1.numbers,v1.cJ,false,v1.family⟩:Sub),cC) else if (v2.kind==12)=true then some ((⟨v1.id,v1.az,v1.since,v1.xb,v1.numbers,v1.cJ,v1.bY,true⟩:Sub),cC) else if (v2.kind==13)=true then some ((⟨v1.id,v1.az,v1.since,v1.xb,v1.numbers,v1.cJ,v1.bY,false⟩:Sub),cC) else some (v1,cC)
def dI (v1:Event) (bl:O Int) (aX:O (Int×aq)) (aV:O (Int×Sub)) (b9:O (Int×Bool)) (cC:O ((O uA)×Int)) (bR:O (Int×Int)) (oD:O Int):J ((O Int)×(O Int)×(O (Int×aq))×(O (Int×Sub))×(O (Int×Bool))×(O ((O uA)×Int))×(O (Int×Int))) :=
 some (oD,bl,dm aX v1.az (⟨v1.az,v1.at_,v1.value,(v1.name==([112,114,101,112,97,105,100]:O uA)),false,([]:O Int)⟩:aq),aV,b9,cC,bR)
def dJ (v1:Event) (bB:O Int) (aX:O (Int×aq)) (aV:O (Int×Sub)) (b9:O (Int×Bool)) (cC:O ((O uA)×Int)) (bR:O (Int×Int)) (ru:O Int):J ((O Int)×(O Int)×(O (Int×aq))×(O (Int×Sub))×(O (Int×Bool))×(O ((O uA)×Int))×(O (Int×Int))) :=
 ck (dp (((aC bR v1.az).getD 0)+1)) (some (bB,ru,aX,dm aV v1.sub (⟨v1.sub,v1.az,v1.at_,v1.name,([]:O (O uA)),([]:O (O uA)),false,false⟩:Sub),dm b9 v1.sub true,cC,dm bR v1.az (((aC bR v1.az).getD 0)+1)))
def cR (v1:Event) (bB:O Int) (bl:O Int) (aX:O (Int×aq)) (aV:O (Int×Sub)) (b9:O (Int×Bool)) (bR:O (Int×Int)) (zI:O ((O uA)×Int)):J ((O Int)×(O Int)×(O (Int×aq))×(O (Int×Sub))×(O (Int×Bool))×(O ((O uA)×Int))×(O (Int×Int))) :=
 ck (dp (((aC bR ((aC aV v1.sub).getD (⟨0,0,0,([]:O uA),([]:O (O uA)),([]:O (O uA)),false,false⟩:Sub)).az).getD 0) - 1)) (some (bB,bl,aX,gg aV v1.sub,b9,zI,dm bR ((aC aV v1.sub).getD (⟨0,0,0,([]:O uA),([]:O (O uA)),([]:O (O uA)),false,false⟩:Sub)).az (((aC bR ((aC aV v1.sub).getD (⟨0,0,0,([]:O uA),([]:O (O uA)),([]:O (O uA)),false,false⟩:Sub)).az).getD 0) - 1)))
def fG (v1:Event) (bB:O Int) (bl:O Int) (aX:O (Int×aq)) (aV:O (Int×Sub)) (b9:O (Int×Bool)) (bR:O (Int×Int)) (rv:Int) (oE:O ((O uA)×Int)):J ((Int×(O ((O uA)×Int))) ⊕ ((O Int)×(O Int)×(O (Int×aq))×(O (Int×Sub))×(O (Int×Bool))×(O ((O uA)×Int))×(O (Int×Int)))) :=
 if (decide (rv<((((aC aV v1.sub).getD (⟨0,0,0,([]:O uA),([]:O (O uA)),([]:O (O uA)),false,false⟩:Sub)).numbers).length:Int)))=true then (ck ((0:Int)<=rv/\rv<((((aC aV v1.sub).getD (⟨0,0,0,([]:O uA),([]:O (O uA)),([]:O (O uA)),false,false⟩:Sub)).numbers).length:Int)) (ck (dp (rv+1)) (some (.inl (rv+1,gg oE (nth ((aC aV v1.sub).getD (⟨0,0,0,([]:O uA),([]:O (O uA)),([]:O (O uA)),false,false⟩:Sub)).numbers rv.toNat)))))) else (cR v1 bB bl aX aV b9 bR oE).map (λz=>.inr z)
def dK (v1:Event) (bB:O Int) (bl:O Int) (aX:O (Int×aq)) (aV:O (Int×Sub)) (b9:O (Int×Bool)) (cC:O ((O uA)×Int)) (bR:O (Int×Int)) (D7:Bool):J ((O Int)×(O Int)×(O (Int×aq))×(O (Int×Sub))×(O (Int×Bool))×(O ((O uA)×Int))×(O (Int×Int))) :=
 if D7=true then some (bB,bl,aX,aV,b9,cC,bR) else if ((aC aV v1.sub).isSome)=true then ((fU ((aC aV v1.sub).getD (⟨0,0,0,([]:O uA),([]:O (O uA)),([]:O (O uA)),false,false⟩:Sub)) v1 bB bl aX aV b9 cC bR).bind λy3=>some (bB,bl,aX,dm aV v1.sub y3.1,b9,y3.2,bR)) else some (bB,bl,aX,aV,b9,cC,bR)
def fC (v1:Event) (bB:O Int) (bl:O Int) (aX:O (Int×aq)) (aV:O (Int×Sub)) (b9:O (Int×Bool)) (cC:O ((O uA)×Int)) (bR:O (Int×Int)):J ((O Int)×(O Int)×(O (Int×aq))×(O (Int×Sub))×(O (Int×Bool))×(O ((O uA)×Int))×(O (Int×Int))) :=
 if (v1.kind==1)=true then (if (!(aC aX v1.az).isSome)=true then ((gA bB v1.az).bind λy1=>dI v1 bl aX aV b9 cC bR y1) else dI v1 bl aX aV b9 cC bR bB) else if (v1.kind==2)=true then some (bB,bl,dm aX v1.az (⟨((aC aX v1.az).getD (⟨0,0,0,false,false,([]:O Int)⟩:aq)).id,((aC aX v1.az).getD (⟨0,0,0,false,false,([]:O Int)⟩:aq)).since,((aC aX v1.az).getD (⟨0,0,0,false,false,([]:O Int)⟩:aq)).anchor,((aC aX v1.az).getD (⟨0,0,0,false,false,([]:O Int)⟩:aq)).gJ,true,((aC aX v1.az).getD (⟨0,0,0,false,false,([]:O Int)⟩:aq)).bp⟩:aq),aV,b9,cC,bR) else if (v1.kind==3)=true then (if (!((aC b9 v1.sub).getD false))=true then ((gA bl v1.sub).bind λy2=>dJ v1 bB aX aV b9 cC bR y2) else dJ v1 bB aX aV b9 cC bR bl) else if (v1.kind==4)=true then (loop (λs=>fG v1 bB bl aX aV b9 bR s.1 s.2) (0,cC)) else if (v1.kind==14)=true then (dK v1 bB bl aX aV b9 cC bR (v1.kind==14)) else dK v1 bB bl aX aV b9 cC bR (v1.kind==15)
def j7 (e:Event) (Bn:O Int) (Bo:O Int) (aV:O (Int×aq)) (b9:O (Int×Sub)) (cC:O (Int×Bool)) (bR:O ((O uA)×Int)) (Bp:O (Int×Int)):J ((O Int)×(O Int)×(O (Int×aq))×(O (Int×Sub))×(O (Int×Bool))×(O ((O uA)×Int))×(O (Int×Int))) :=
 (fC e Bn Bo aV b9 cC bR Bp).bind λy1=>some (y1.1,y1.2.1,y1.2.2.1,y1.2.2.2.1,y1.2.2.2.2.1,y1.2.2.2.2.2.1,y1.2.2.2.2.2.2)
def lh (pF:O Event) (v8:Int) (aW:Int) (jm:O Int) (gi:O Int) (bX:O (Int×aq)) (B0:O (Int×Sub)) (oE:O (Int×Bool)) (B1:O ((O uA)×Int)) (B2:O (Int×Int)):J ((Int×O Int×O Int×(O (Int×aq))×(O (Int×Sub))×(O (Int×Bool))×(O ((O uA)×Int))×(O (Int×Int))) ⊕ ((O Int)×(O Int)×(O (Int×aq))×(O (Int×Sub))×(O (Int×Bool))×(O ((O uA)×Int))×(O (Int×Int)))) :=
 if (decide (aW<(pF.length:Int)))=true then (ck ((0:Int)<=aW/\aW<(pF.length:Int)) (if (decide (((nth pF aW.toNat).at_)<=v8))=true then ((j7 (nth pF aW.toNat) jm gi bX B0 oE B1 B2).bind λy1=>ck (dp (aW+1)) (some (.inl (aW+1,y1.1,y1.2.1,y1.2.2.1,y1.2.2.2.1,y1.2.2.2.2.1,y1.2.2.2.2.2.1,y1.2.2.2.2.2.2)))) else ck (dp (aW+1)) (some (.inl (aW+1,jm,gi,bX,B0,oE,B1,B2))))) else some (.inr (jm,gi,bX,B0,oE,B1,B2))
def ji (pF:O Event) (v8:Int) (Bn:O Int) (Bo:O Int) (aV:O (Int×aq)) (b9:O (Int×Sub)) (cC:O (Int×Bool)) (bR:O ((O uA)×Int)) (Bp:O (Int×Int)):J ((O Int)×(O Int)×(O (Int×aq))×(O (Int×Sub))×(O (Int×Bool))×(O ((O uA)×Int))×(O (Int×Int))) :=
 loop (λs=>lh pF v8 s.1 s.2.1 s.2.2.1 s.2.2.2.1 s.2.2.2.2.1 s.2.2.2.2.2.1 s.2.2.2.2.2.2.1 s.2.2.2.2.2.2.2) (0,Bn,Bo,aV,b9,cC,bR,Bp)
def ey (bB:O Int) (aX:O (Int×aq)) (ry:O Sub) (oF:O (Int×(O Int))) (gT:Int) (yd:O aq):J ((Int×O aq) ⊕ cD) :=
 if (decide (gT<(bB.length:Int)))=true then (ck ((0:Int)<=gT/\gT<(bB.length:Int)) (ck (yd.length+([(⟨((aC aX (nth bB gT.toNat)).getD (⟨0,0,0,false,false,([]:O Int)⟩:aq)).id,((aC aX (nth bB gT.toNat)).getD (⟨0,0,0,false,false,([]:O Int)⟩:aq)).since,((aC aX (nth bB gT.toNat)).getD (⟨0,0,0,false,false,([]:O Int)⟩:aq)).anchor,((aC aX (nth bB gT.toNat)).getD (⟨0,0,0,false,false,([]:O Int)⟩:aq)).gJ,((aC aX (nth bB gT.toNat)).getD (⟨0,0,0,false,false,([]:O Int)⟩:aq)).closed,(aC oF (nth bB gT.toNat)).getD ([]:O Int)⟩:aq)]:O aq).length<=1000000000) (ck (dp (gT+1)) (some (.inl (gT+1,yd++([(⟨((aC aX (nth bB gT.toNat)).getD (⟨0,0,0,false,false,([]:O Int)⟩:aq)).id,((aC aX (nth bB gT.toNat)).getD (⟨0,0,0,false,false,([]:O Int)⟩:aq)).since,((aC aX (nth bB gT.toNat)).getD (⟨0,0,0,false,false,([]:O Int)⟩:aq)).anchor,((aC aX (nth bB gT.toNat)).getD (⟨0,0,0,false,false,([]:O Int)⟩:aq)).gJ,((aC aX (nth bB gT.toNat)).getD (⟨0,0,0,false,false,([]:O Int)⟩:aq)).closed,(aC oF (nth bB gT.toNat)).getD ([]:O Int)⟩:aq)]:O aq))))))) else some (.inr (⟨yd,ry⟩:cD))
def db (bB:O Int) (aX:O (Int×aq)) (ry:O Sub) (oF:O (Int×(O Int))):J cD :=
 loop (λs=>ey bB aX ry oF s.1 s.2) (0,([]:O aq))
def ez (bB:O Int) (bl:O Int) (aX:O (Int×aq)) (aV:O (Int×Sub)) (eo:Int) (mx:O Sub) (ik:O (Int×(O Int))):J ((Int×O Sub×(O (Int×(O Int)))) ⊕ cD) :=
 if (decide (eo<(bl.length:Int)))=true then (ck ((0:Int)<=eo/\eo<(bl.length:Int)) (if (!(aC aV (nth bl eo.toNat)).isSome)=true then (ck (dp (eo+1)) (some (.inl (eo+1,mx,ik)))) else ck (((aC ik ((aC aV (nth bl eo.toNat)).getD (⟨0,0,0,([]:O uA),([]:O (O uA)),([]:O (O uA)),false,false⟩:Sub)).az).getD ([]:O Int)).length+([nth bl eo.toNat]:O Int).length<=1000000000) (ck (mx.length+([(aC aV (nth bl eo.toNat)).getD (⟨0,0,0,([]:O uA),([]:O (O uA)),([]:O (O uA)),false,false⟩:Sub)]:O Sub).length<=1000000000) (ck (dp (eo+1)) (some (.inl (eo+1,mx++([(aC aV (nth bl eo.toNat)).getD (⟨0,0,0,([]:O uA),([]:O (O uA)),([]:O (O uA)),false,false⟩:Sub)]:O Sub),dm ik ((aC aV (nth bl eo.toNat)).getD (⟨0,0,0,([]:O uA),([]:O (O uA)),([]:O (O uA)),false,false⟩:Sub)).az (((aC ik ((aC aV (nth bl eo.toNat)).getD (⟨0,0,0,([]:O uA),([]:O (O uA)),([]:O (O uA)),false,false⟩:Sub)).az).getD ([]:O Int))++([nth bl eo.toNat]:O Int))))))))) else (db bB aX mx ik).map (λz=>.inr z)
def fi (bB:O Int) (bl:O Int) (aX:O (Int×aq)) (aV:O (Int×Sub)) (b9:O (Int×Bool)) (cC:O ((O uA)×Int)) (bR:O (Int×Int)):J cD :=
 loop (λs=>ez bB bl aX aV s.1 s.2.1 s.2.2) (0,([]:O Sub),([]:O (Int×(O Int))))
def eM (aw:O Event) (Cm:Int):J cD :=
 (pn).bind λy1=>(qw aw Cm).bind λy2=>(ji y2.1 y2.2 ([]:O Int) ([]:O Int) y1.1 y1.2.1 y1.2.2.1 y1.2.2.2.1 y1.2.2.2.2).bind λy3=>(fi y3.1 y3.2.1 y3.2.2.1 y3.2.2.2.1 y3.2.2.2.2.1 y3.2.2.2.2.2.1 y3.2.2.2.2.2.2).bind λy4=>some y4
def iB (y1:cD) (lR:Int) (wa:Int) (cN:O ((O uA)×Int)):J ((Int×(O ((O uA)×Int))) ⊕ ((Int×(O ((O uA)×Int))) ⊕ (O ((O uA)×Int)))) :=
 if (decide (wa<(((nth y1.bp lR.toNat).numbers).length:Int)))=true then (ck ((0:Int)<=wa/\wa<(((nth y1.bp lR.toNat).numbers).length:Int)) (ck (dp (wa+1)) (some (.inl (wa+1,dm cN (nth (nth y1.bp lR.toNat).numbers wa.toNat) (nth y1.bp lR.toNat).id))))) else ck (dp (lR+1)) (some (.inr (.inl (lR+1,cN))))
def iC (y1:cD) (lR:Int) (cW:O ((O uA)×Int)):J ((Int×(O ((O uA)×Int))) ⊕ (O ((O uA)×Int))) :=
 if (decide (lR<(y1.bp.length:Int)))=true then (ck ((0:Int)<=lR/\lR<(y1.bp.length:Int)) (loop (λs=>iB y1 lR s.1 s.2) (0,cW))) else some (.inr cW)
def j8 (aw:O Event) (Cm:Int):J (O ((O uA)×Int)) :=
 (eM aw Cm).bind λy1=>loop (λs=>iC y1 s.1 s.2) (0,([]:O ((O uA)×Int)))
def nU (aw:O Event) (dE:O uA) (KB:Int):J (Int×Bool) :=
 (j8 aw KB).bind λy1=>some ((aC y1 dE).getD 0,(aC y1 dE).isSome)
def lj (ye:Int) (y1:cD) (eu:Int):J (Int ⊕ (Sub×Bool)) :=
 if (decide (eu<(y1.bp.length:Int)))=true then (ck ((0:Int)<=eu/\eu<(y1.bp.length:Int)) (if (((nth y1.bp eu.toNat).id)==ye)=true then some (.inr (nth y1.bp eu.toNat,true)) else ck (dp (eu+1)) (some (.inl (eu+1))))) else some (.inr ((⟨0,0,0,([]:O uA),([]:O (O uA)),([]:O (O uA)),false,false⟩:Sub),false))
def oG (aw:O Event) (ye:Int) (KB:Int):J (Sub×Bool) :=
 (eM aw KB).bind λy1=>loop (λs=>lj ye y1 s) 0
def jB (Xu:lF):J (Sub×Bool) :=
 (gS Xu.source).bind λy1=>(nU Xu.events y1 Xu.source.record.start).bind λy2=>if (!y2.2)=true then some ((⟨0,0,0,([]:O uA),([]:O (O uA)),([]:O (O uA)),false,false⟩:Sub),false) else (oG Xu.events y2.1 Xu.source.record.start).bind λy3=>some (y3.1,y3.2)
def kv (bV:dQ) (ye:Int) (G5:Sub):J aA :=
 some (⟨ye,bV.record.kind,G5.az,G5.id,bV.record.a,bV.record.b,bV.record.start,bV.record.cX,bV.record.dh,bV.record.bL,bV.record.source,bV.record.aF⟩:aA)
def gU (aw:O Event) (Vd:aa) (VW:Int):J (aA×Int) :=
 (ei Vd).bind λy1=>if (y1 != 0)=true then some ((⟨0,0,0,0,([]:O uA),([]:O uA),0,0,0,false,0,0⟩:aA),y1) else if (Vd.part != 0)=true then some ((⟨0,0,0,0,([]:O uA),([]:O uA),0,0,0,false,0,0⟩:aA),8) else (jB (⟨(⟨Vd⟩:dQ),aw⟩:lF)).bind λy2=>if (!y2.2)=true then some ((⟨0,0,0,0,([]:O uA),([]:O uA),0,0,0,false,0,0⟩:aA),11) else if (y2.1.bY && (!Vd.bL))=true then some ((⟨0,0,0,0,([]:O uA),([]:O uA),0,0,0,false,0,0⟩:aA),16) else (kv (⟨Vd⟩:dQ) VW y2.1).bind λy3=>some (y3,0)
def my (aw:O Event) (iy:ah):J ((O Range)×(O aa)×(O Head)×(O aA)×(O ai)×(O Event)×(O aa)) :=
 (gK iy.al.seen).bind λy1=>(dv iy.al.open_).bind λy2=>(kW iy.al.aP).bind λy3=>(uy iy.usages).bind λy4=>(p7 iy.br).bind λy5=>some (y1,y2,y3,y4,y5,aw,iy.aH)
def dC (aU:O aa) (bl:O Event) (bd:O aA) (dn:O aa) (bq:Int):J ((O aA×O aa×Int) ⊕ ((O aA)×(O aa))) :=
 if (decide (bq<(aU.length:Int)))=true then (ck ((0:Int)<=bq/\bq<(aU.length:Int)) (ck (dp ((bd.length:Int)+1)) ((gU bl (nth aU bq.toNat) ((bd.length:Int)+1)).bind λy1=>if (y1.2==0)=true then (ck (bd.length+([y1.1]:O aA).length<=1000000000) (ck (dp (bq+1)) (some (.inl (bd++([y1.1]:O aA),dn,bq+1))))) else ck (dn.length+([nth aU bq.toNat]:O aa).length<=1000000000) (ck (dp (bq+1)) (some (.inl (bd,dn++([nth aU bq.toNat]:O aa),bq+1))))))) else some (.inr (bd,dn))
def gB (aU:O aa) (bK:O Range) (j9:O aa) (ka:O Head) (bl:O Event) (aY:O aA) (iZ:O aa) (wc:O ai):J ((O aA)×(O aa)) :=
 loop (λs=>dC aU bl s.1 s.2.1 s.2.2) (aY,iZ,0)
def iK (v0:O Event) (v1:ah) (v2:Batch) (v3:bU):J (ah×Int) :=
 (nt v1.al v2 v3).bind λy1=>if (y1.2.2.2 != 0)=true then some ((⟨(⟨([]:O Range),([]:O aa),([]:O Head)⟩:aG),([]:O aA),([]:O aa),([]:O ai)⟩:ah),y1.2.2.2) else (my v0 v1).bind λy2=>(dv y2.2.2.2.2.2.2).bind λy3=>ck (y2.2.2.2.2.1.length+y1.2.2.1.length<=1000000000) ((gB y1.2.1 y1.1.seen y1.1.open_ y1.1.aP y2.2.2.2.2.2.1 y2.2.2.2.1 y3 (y2.2.2.2.2.1++y1.2.2.1)).bind λy4=>some ((⟨y1.1,y4.1,y4.2,y2.2.2.2.2.1++y1.2.2.1⟩:ah),0))
def mz (aZ:O Range) (qc:Int) (aW:Int):J ((Int×Int) ⊕ Int) :=
 if (decide (aW<(aZ.length:Int)))=true then (ck ((0:Int)<=aW/\aW<(aZ.length:Int)) (ck (dp ((nth aZ aW.toNat).kV - (nth aZ aW.toNat).from_)) (ck (dp (((nth aZ aW.toNat).kV - (nth aZ aW.toNat).from_)+1)) (ck (dp (qc+(((nth aZ aW.toNat).kV - (nth aZ aW.toNat).from_)+1))) (ck (dp (aW+1)) (some (.inl (qc+(((nth aZ aW.toNat).kV - (nth aZ aW.toNat).from_)+1),aW+1)))))))) else some (.inr qc)
def qd (aZ:O Range):J Int :=
 loop (λs=>mz aZ s.1 s.2) (0,0)
def gV (eT:ah) (sx:Int):J bN :=
 (qd eT.al.seen).bind λy1=>ck (dp (y1-(eT.usages.length:Int))) (ck (dp ((y1-(eT.usages.length:Int)) - (eT.aH.length:Int))) (ck (dp (((y1-(eT.usages.length:Int)) - (eT.aH.length:Int)) - (eT.al.open_.length:Int))) (some (⟨sx,(eT.usages.length:Int),((y1-(eT.usages.length:Int)) - (eT.aH.length:Int)) - (eT.al.open_.length:Int),(eT.br.length:Int),(eT.aH.length:Int),(eT.al.open_.length:Int)⟩:bN))))
def gW (eT:ah) (we:Int) (bX:Int):J ((Int×Int) ⊕ bN) :=
 if (decide (we<(eT.al.aP.length:Int)))=true then (ck ((0:Int)<=we/\we<(eT.al.aP.length:Int)) (ck (dp (bX+((nth eT.al.aP we.toNat).count))) (ck (dp (we+1)) (some (.inl (we+1,bX+((nth eT.al.aP we.toNat).count))))))) else (gV eT bX).map (λz=>.inr z)
def eO (eT:ah):J bN :=
 loop (λs=>gW eT s.1 s.2) (0,0)
def hU (aw:O Event) (iy:ah):J ((O Range)×(O aa)×(O Head)×(O aA)×(O ai)×(O Event)×(O aa)) :=
 (gK iy.al.seen).bind λy1=>(dv iy.al.open_).bind λy2=>(kW iy.al.aP).bind λy3=>(uy iy.usages).bind λy4=>(p7 iy.br).bind λy5=>some (y1,y2,y3,y4,y5,aw,iy.aH)
def dd (aU:O aa) (bl:O Event) (bd:O aA) (bq:Int) (e8:O aa):J ((O aA×Int×O aa) ⊕ ((O aA)×(O aa))) :=
 if (decide (bq<(aU.length:Int)))=true then (ck ((0:Int)<=bq/\bq<(aU.length:Int)) (ck (dp ((bd.length:Int)+1)) ((gU bl (nth aU bq.toNat) ((bd.length:Int)+1)).bind λy1=>if (y1.2==0)=true then (ck (bd.length+([y1.1]:O aA).length<=1000000000) (ck (dp (bq+1)) (some (.inl (bd++([y1.1]:O aA),bq+1,e8))))) else ck (e8.length+([nth aU bq.toNat]:O aa).length<=1000000000) (ck (dp (bq+1)) (some (.inl (bd,bq+1,e8++([nth aU bq.toNat]:O aa)))))))) else some (.inr (bd,e8))
def fj (aU:O aa) (bK:O Range) (j9:O aa) (ka:O Head) (bB:O ai) (bl:O Event) (aY:O aA) (iZ:O aa):J ((O aA)×(O aa)) :=
 loop (λs=>dd aU bl s.1 s.2.1 s.2.2) (aY,0,iZ)
def jj (aw:O Event) (iy:ah):J ah :=
 (hU aw iy).bind λy1=>(fj y1.2.2.2.2.2.2 y1.1 y1.2.1 y1.2.2.1 y1.2.2.2.2.1 y1.2.2.2.2.2.1 y1.2.2.2.1 ([]:O aa)).bind λy2=>some (⟨(⟨y1.1,y1.2.1,y1.2.2.1⟩:aG),y2.1,y2.2,y1.2.2.2.2.1⟩:ah)
def mA (aZ:O Range) (aW:Int):J (Int ⊕ Bool) :=
 if (decide (aW<(aZ.length:Int)))=true then (ck ((0:Int)<=aW/\aW<(aZ.length:Int)) ((eh (nth aZ aW.toNat).source (nth aZ aW.toNat).from_).bind λy1=>(cG (!(!y1)) (eh (nth aZ aW.toNat).source (nth aZ aW.toNat).kV)).bind λy2=>if (((!y1) || (!y2)) || (decide ((nth aZ aW.toNat).from_ > (nth aZ aW.toNat).kV)))=true then some (.inr false) else if (decide (aW > 0))=true then (ck (dp (aW-1)) (ck ((0:Int)<=(aW-1)/\(aW-1)<(aZ.length:Int)) (ck (((!(decide ((nth aZ (aW-1).toNat).source > (nth aZ aW.toNat).source))) && (((nth aZ (aW-1).toNat).source)==((nth aZ aW.toNat).source)))=true->(dp (((nth aZ (aW-1).toNat).kV)+1))) (if ((decide ((nth aZ (aW-1).toNat).source > (nth aZ aW.toNat).source)) || ((((nth aZ (aW-1).toNat).source)==((nth aZ aW.toNat).source)) && (decide ((((nth aZ (aW-1).toNat).kV)+1)>=((nth aZ aW.toNat).from_)))))=true then some (.inr false) else ck (dp (aW+1)) (some (.inl (aW+1))))))) else ck (dp (aW+1)) (some (.inl (aW+1))))) else some (.inr true)
def nH (aZ:O Range):J Bool :=
 loop (λs=>mA aZ s) 0
def qx (AQ:O aa) (D8:O aa) (bw:Int):J (Int ⊕ Bool) :=
 if (decide (bw<(AQ.length:Int)))=true then (ck ((0:Int)<=bw/\bw<(AQ.length:Int)) (ck ((0:Int)<=bw/\bw<(D8.length:Int)) (if (!(et (aa.bM (nth AQ bw.toNat)) (aa.bM (nth D8 bw.toNat))))=true then some (.inr false) else ck (dp (bw+1)) (some (.inl (bw+1)))))) else some (.inr true)
def rz (AQ:O aa) (D8:O aa):J Bool :=
 if ((AQ.length:Int) != (D8.length:Int))=true then some false else loop (λs=>qx AQ D8 s) 0
def jR (bD:aG) (eZ:O (bt×Bool)):J Bool :=
 (jQ ([]:O aa) bD.open_).bind λy1=>(cG ((y1.1.length:Int)==0) (rz y1.2 bD.open_)).bind λy2=>some (((y1.1.length:Int)==0) && y2)
def po (bD:aG) (bw:Int) (ca:O (bt×Bool)):J ((Int×(O (bt×Bool))) ⊕ Bool) :=
 if (decide (bw<(bD.open_.length:Int)))=true then (ck ((0:Int)<=bw/\bw<(bD.open_.length:Int)) ((cG (!(((nth bD.open_ bw.toNat).part)==0)) (ei (nth bD.open_ bw.toNat))).bind λy3=>(cG (!(((((nth bD.open_ bw.toNat).part)==0) || (y3 != 0)) || ((aC ca (⟨(nth bD.open_ bw.toNat).source,(nth bD.open_ bw.toNat).aF⟩:bt)).getD false))) (oA bD.seen (nth bD.open_ bw.toNat).source (nth bD.open_ bw.toNat).aF)).bind λy4=>if ((((((nth bD.open_ bw.toNat).part)==0) || (y3 != 0)) || ((aC ca (⟨(nth bD.open_ bw.toNat).source,(nth bD.open_ bw.toNat).aF⟩:bt)).getD false)) || (!y4))=true then some (.inr false) else ck (dp (bw+1)) (some (.inl (bw+1,dm ca (⟨(nth bD.open_ bw.toNat).source,(nth bD.open_ bw.toNat).aF⟩:bt) true))))) else (jR bD ca).map (λz=>.inr z)
def nI (bD:aG):J Bool :=
 loop (λs=>po bD s.1 s.2) (0,([]:O (bt×Bool)))
def dx (v0:O Head) (bg:Int) (cW:O (Int×Int)):J ((Int×(O (Int×Int))) ⊕ (O (Int×Int))) :=
 if (decide (bg<(v0.length:Int)))=true then (ck ((0:Int)<=bg/\bg<(v0.length:Int)) (ck ((0:Int)<=bg/\bg<=(v0.length:Int)) ((iP (⟨([]:O Range),([]:O aa),v0.take bg.toNat⟩:aG) (nth v0 bg.toNat).source).bind λy1=>if ((((((((!(et (Head.bM (nth v0 bg.toNat)) (Head.bM (⟨(nth v0 bg.toNat).source,y1,(nth v0 bg.toNat).format,(nth v0 bg.toNat).count⟩:Head)))) || (decide ((nth v0 bg.toNat).source<1))) || (decide ((nth v0 bg.toNat).source > 99))) || (decide ((nth v0 bg.toNat).format<1))) || (decide (((nth v0 bg.toNat).format)>=4))) || (decide ((nth v0 bg.toNat).count<0))) || (decide ((nth v0 bg.toNat).count > 4096))) || (decide ((nth v0 bg.toNat).number > 999999999)))=true then none else ck (dp (((aC cW (nth v0 bg.toNat).source).getD 0)+((nth v0 bg.toNat).count))) (ck (dp (bg+1)) (some (.inl (bg+1,dm cW (nth v0 bg.toNat).source (((aC cW (nth v0 bg.toNat).source).getD 0)+((nth v0 bg.toNat).count))))))))) else some (.inr cW)
def kb (v0:O Head):J (O (Int×Int)) :=
 loop (λs=>dx v0 s.1 s.2) (0,([]:O (Int×Int)))
def dR (v0:O Head) (bg:Int) (cW:O (Int×Int)):J ((Int×(O (Int×Int))) ⊕ Unit) :=
 if (decide (bg<(v0.length:Int)))=true then (ck ((0:Int)<=bg/\bg<(v0.length:Int)) (ck ((0:Int)<=bg/\bg<=(v0.length:Int)) ((iP (⟨([]:O Range),([]:O aa),v0.take bg.toNat⟩:aG) (nth v0 bg.toNat).source).bind λy1=>if ((((((((!(et (Head.bM (nth v0 bg.toNat)) (Head.bM (⟨(nth v0 bg.toNat).source,y1,(nth v0 bg.toNat).format,(nth v0 bg.toNat).count⟩:Head)))) || (decide ((nth v0 bg.toNat).source<1))) || (decide ((nth v0 bg.toNat).source > 99))) || (decide ((nth v0 bg.toNat).format<1))) || (decide (((nth v0 bg.toNat).format)>=4))) || (decide ((nth v0 bg.toNat).count<0))) || (decide ((nth v0 bg.toNat).count > 4096))) || (decide ((nth v0 bg.toNat).number > 999999999)))=true then some (.inr ()) else ck (dp (((aC cW (nth v0 bg.toNat).source).getD 0)+((nth v0 bg.toNat).count))) (ck (dp (bg+1)) (some (.inl (bg+1,dm cW (nth v0 bg.toNat).source (((aC cW (nth v0 bg.toNat).source).getD 0)+((nth v0 bg.toNat).count))))))))) else none
def nV (v0:O Head):J Unit :=
 loop (λs=>dR v0 s.1 s.2) (0,([]:O (Int×Int)))
def lk (bD:aG) (y1:(O (Int×Int))) (dS:Int) (bX:O (Int×Int)):J ((Int×(O (Int×Int))) ⊕ Bool) :=
 if (decide (dS<(bD.seen.length:Int)))=true then (ck ((0:Int)<=dS/\dS<(bD.seen.length:Int)) (ck (dp ((nth bD.seen dS.toNat).kV - (nth bD.seen dS.toNat).from_)) (ck (dp (((nth bD.seen dS.toNat).kV - (nth bD.seen dS.toNat).from_)+1)) (ck (dp (((aC bX (nth bD.seen dS.toNat).source).getD 0)+(((nth bD.seen dS.toNat).kV - (nth bD.seen dS.toNat).from_)+1))) (if (decide (((aC (dm bX (nth bD.seen dS.toNat).source (((aC bX (nth bD.seen dS.toNat).source).getD 0)+(((nth bD.seen dS.toNat).kV - (nth bD.seen dS.toNat).from_)+1))) (nth bD.seen dS.toNat).source).getD 0) > ((aC y1 (nth bD.seen dS.toNat).source).getD 0)))=true then some (.inr false) else ck (dp (dS+1)) (some (.inl (dS+1,dm bX (nth bD.seen dS.toNat).source (((aC bX (nth bD.seen dS.toNat).source).getD 0)+(((nth bD.seen dS.toNat).kV - (nth bD.seen dS.toNat).from_)+1)))))))))) else some (.inr true)
def oH (bD:aG):J Bool :=
 if ((kb bD.aP).isSome)=true then ((kb bD.aP).bind λy1=>(cG (!(!true)) (nH bD.seen)).bind λy2=>(cG (!((!true) || (!y2))) (nI bD)).bind λy3=>if (((!true) || (!y2)) || (!y3))=true then some false else loop (λs=>lk bD y1 s.1 s.2) (0,([]:O (Int×Int)))) else (nV bD.aP).bind λy4=>(cG (!(!false)) (nH bD.seen)).bind λy5=>(cG (!((!false) || (!y5))) (nI bD)).bind λy6=>some false
def iL (Iu:aA):J aa :=
 some (⟨Iu.source,Iu.aF,Iu.kind,Iu.a,Iu.b,Iu.start,Iu.cX,0,0,false,Iu.dh,Iu.bL⟩:aa)
def iD (aQ:O aA) (cz:Int):J (Int ⊕ Bool) :=
 if (decide (cz<(aQ.length:Int)))=true then (ck ((0:Int)<=cz/\cz<(aQ.length:Int)) (ck (dp (cz+1)) ((cG (!((((nth aQ cz.toNat).id != (cz+1)) || (decide ((if (nth aQ cz.toNat).sub<(nth aQ cz.toNat).az then (nth aQ cz.toNat).sub else (nth aQ cz.toNat).az)<1))) || (decide ((if (nth aQ cz.toNat).sub > (nth aQ cz.toNat).az then (nth aQ cz.toNat).sub else (nth aQ cz.toNat).az) > 9999)))) (iL (nth aQ cz.toNat))).bind λy1=>(cG (!((((nth aQ cz.toNat).id != (cz+1)) || (decide ((if (nth aQ cz.toNat).sub<(nth aQ cz.toNat).az then (nth aQ cz.toNat).sub else (nth aQ cz.toNat).az)<1))) || (decide ((if (nth aQ cz.toNat).sub > (nth aQ cz.toNat).az then (nth aQ cz.toNat).sub else (nth aQ cz.toNat).az) > 9999)))) (ei y1)).bind λy2=>if (((((nth aQ cz.toNat).id != (cz+1)) || (decide ((if (nth aQ cz.toNat).sub<(nth aQ cz.toNat).az then (nth aQ cz.toNat).sub else (nth aQ cz.toNat).az)<1))) || (decide ((if (nth aQ cz.toNat).sub > (nth aQ cz.toNat).az then (nth aQ cz.toNat).sub else (nth aQ cz.toNat).az) > 9999))) || (y2 != 0))=true then some (.inr false) else ck (dp (cz+1)) (some (.inl (cz+1)))))) else some (.inr true)
def kc (aQ:O aA):J Bool :=
 loop (λs=>iD aQ s) 0
def fH (di:O (O aa)) (bd:O aa) (uf:Int):J ((O aa×Int) ⊕ (O aa)) :=
 if (decide (uf<(di.length:Int)))=true then (ck ((0:Int)<=uf/\uf<(di.length:Int)) (ck (bd.length+(nth di uf.toNat).length<=1000000000) (ck (dp (uf+1)) (some (.inl (bd++(nth di uf.toNat),uf+1)))))) else some (.inr bd)
def eA (di:O (O aa)) (xf:Int):J (O aa) :=
 (ya xf).bind λy1=>loop (λs=>fH di s.1 s.2) (y1,0)
def fJ (di:O (O aa)) (qe:Int) (ug:Int):J ((Int×Int) ⊕ (O aa)) :=
 if (decide (ug<(di.length:Int)))=true then (ck ((0:Int)<=ug/\ug<(di.length:Int)) (ck (dp (qe+((nth di ug.toNat).length:Int))) (if (decide ((qe+((nth di ug.toNat).length:Int))<0))=true then none else ck (dp (ug+1)) (some (.inl (qe+((nth di ug.toNat).length:Int),ug+1)))))) else (eA di qe).map (λz=>.inr z)
def gX (di:O (O aa)):J (O aa) :=
 loop (λs=>fJ di s.1 s.2) (0,0)
def iE (eT:ah) (cU:O aa) (jK:Int) (ca:O (bc×Bool)):J ((Int×(O (bc×Bool))) ⊕ Bool) :=
 if (decide (jK<(cU.length:Int)))=true then (ck ((0:Int)<=jK/\jK<(cU.length:Int)) ((cG (!((aC ca (⟨(nth cU jK.toNat).source,(nth cU jK.toNat).aF⟩:bc)).getD false)) (oA eT.al.seen (nth cU jK.toNat).source (nth cU jK.toNat).aF)).bind λy2=>if (((aC ca (⟨(nth cU jK.toNat).source,(nth cU jK.toNat).aF⟩:bc)).getD false) || (!y2))=true then some (.inr false) else ck (dp (jK+1)) (some (.inl (jK+1,dm ca (⟨(nth cU jK.toNat).source,(nth cU jK.toNat).aF⟩:bc) true))))) else some (.inr true)
def eU (eT:ah) (cU:O aa):J Bool :=
 loop (λs=>iE eT cU s.1 s.2) (0,([]:O (bc×Bool)))
def iF (eT:ah) (qf:O aa) (yO:Int):J ((O aa×Int) ⊕ Bool) :=
 if (decide (yO<(eT.usages.length:Int)))=true then (ck ((0:Int)<=yO/\yO<(eT.usages.length:Int)) ((iL (nth eT.usages yO.toNat)).bind λy3=>ck (qf.length+([y3]:O aa).length<=1000000000) (ck (dp (yO+1)) (some (.inl (qf++([y3]:O aa),yO+1)))))) else (eU eT qf).map (λz=>.inr z)
def kf (eT:ah):J Bool :=
 (gX ([eT.aH,eT.al.open_]:O (O aa))).bind λy1=>loop (λs=>iF eT s.1 s.2) (y1,0)
def jC (nS:aa):J Bool :=
 (cG (!(nS.part != 0)) (ei nS)).bind λy1=>some ((nS.part != 0) || (y1 != 0))
def ma (Ly:ai):J Bool :=
 some ((Ly.err != 15) && (Ly.err != 13))
def kg (bV:O aa) (aW:Int):J (Int ⊕ Int) :=
 if (decide (aW<(bV.length:Int)))=true then (ck ((0:Int)<=aW/\aW<(bV.length:Int)) ((jC (nth bV aW.toNat)).bind λy1=>if y1=true then some (.inr aW) else ck (dp (aW+1)) (some (.inl (aW+1))))) else some (.inr (-1))
def qy (bV:O aa):J Int :=
 loop (λs=>kg bV s) 0
def nu (bV:O aa):J Bool :=
 (qy bV).bind λy1=>some (decide (y1>=0))
def eK (bV:O ai) (aW:Int):J (Int ⊕ Int) :=
 if (decide (aW<(bV.length:Int)))=true then (ck ((0:Int)<=aW/\aW<(bV.length:Int)) ((ma (nth bV aW.toNat)).bind λy1=>if y1=true then some (.inr aW) else ck (dp (aW+1)) (some (.inl (aW+1))))) else some (.inr (-1))
def iz (bV:O ai):J Int :=
 loop (λs=>eK bV s) 0
def eL (bV:O ai):J Bool :=
 (iz bV).bind λy1=>some (decide (y1>=0))
def gY (eT:ah):J Bool :=
 (oH eT.al).bind λy1=>(cG (!(!y1)) (kc eT.usages)).bind λy2=>(cG (!((!y1) || (!y2))) (kf eT)).bind λy3=>if (((!y1) || (!y2)) || (!y3))=true then some false else (nu eT.aH).bind λy4=>if y4=true then some false else (eL eT.br).bind λy5=>if y5=true then some false else (eO eT).bind λy6=>ck ((decide (y6.merged>=0))=true->(dp (y6.accepted+y6.merged))) (ck ((decide (y6.merged>=0))=true->(dp ((y6.accepted+y6.merged)+y6.rejected))) (ck ((decide (y6.merged>=0))=true->(dp (((y6.accepted+y6.merged)+y6.rejected)+y6.bY))) (ck ((decide (y6.merged>=0))=true->(dp ((((y6.accepted+y6.merged)+y6.rejected)+y6.bY)+y6.open_))) (some ((decide (y6.merged>=0)) && (y6.read==((((y6.accepted+y6.merged)+y6.rejected)+y6.bY)+y6.open_)))))))
def qN:J Bool :=
 (rl false).bind λy1=>(iK y1 (⟨(⟨([]:O Range),([]:O aa),([]:O Head)⟩:aG),([]:O aA),([]:O aa),([]:O ai)⟩:ah) (⟨1,1,1,([(⟨1,1,2,([49]:O uA),([50]:O uA),20,1,0,0,false,0,false⟩:aa),(⟨1,2,2,([51]:O uA),([50]:O uA),20,1,0,0,false,0,false⟩:aa)]:O aa)⟩:Batch) (⟨0,100⟩:bU)).bind λy2=>(rl false).bind λy3=>(iK y3 (⟨(⟨([]:O Range),([]:O aa),([]:O Head)⟩:aG),([]:O aA),([]:O aa),([]:O ai)⟩:ah) (⟨1,1,1,([(⟨1,1,2,([49]:O uA),([50]:O uA),20,1,5,1,false,0,false⟩:aa),(⟨1,2,2,([49]:O uA),([50]:O uA),20,1,5,2,true,0,false⟩:aa)]:O aa)⟩:Batch) (⟨0,100⟩:bU)).bind λy4=>(cG (!((y2.2 != 0) || (y4.2 != 0))) (eO y2.1)).bind λy5=>(cG (!(((y2.2 != 0) || (y4.2 != 0)) || (!(et (bN.bM y5) (bN.bM (⟨2,1,0,0,1,0⟩:bN)))))) (eO y4.1)).bind λy6=>if ((((y2.2 != 0) || (y4.2 != 0)) || (!(et (bN.bM y5) (bN.bM (⟨2,1,0,0,1,0⟩:bN))))) || (!(et (bN.bM y6) (bN.bM (⟨2,1,1,0,0,0⟩:bN)))))=true then some false else (rl true).bind λy7=>(jj y7 y2.1).bind λy8=>ck (((y8.usages.length:Int)==2)=true->((0:Int)<=1/\1<(y8.usages.length:Int))) (ck ((((y8.usages.length:Int)==2) && (((nth y8.usages (Int.toNat (1))).id)==2))=true->((0:Int)<=1/\1<(y8.usages.length:Int))) ((cG (((((y8.usages.length:Int)==2) && (((nth y8.usages (Int.toNat (1))).id)==2)) && (((nth y8.usages (Int.toNat (1))).a)==([51]:O uA))) && ((y8.aH.length:Int)==0)) (gY y8)).bind λy9=>ck ((((((((y8.usages.length:Int)==2) && (((nth y8.usages (Int.toNat (1))).id)==2)) && (((nth y8.usages (Int.toNat (1))).a)==([51]:O uA))) && ((y8.aH.length:Int)==0)) && y9) && ((y4.1.usages.length:Int)==1))=true->((0:Int)<=0/\0<(y4.1.usages.length:Int))) (some ((((((((y8.usages.length:Int)==2) && (((nth y8.usages (Int.toNat (1))).id)==2)) && (((nth y8.usages (Int.toNat (1))).a)==([51]:O uA))) && ((y8.aH.length:Int)==0)) && y9) && ((y4.1.usages.length:Int)==1)) && (((nth y4.1.usages (Int.toNat (0))).cX)==2)))))
def qg (aw:O Event) (Cm:Int) (cO:O Event) (cw:Int):J ((O Event×Int) ⊕ (O Event)) :=
 if (decide (cw<(aw.length:Int)))=true then (ck ((0:Int)<=cw/\cw<(aw.length:Int)) (if (decide (((nth aw cw.toNat).at_)<=Cm))=true then (ck ((0:Int)<=cw/\cw<(aw.length:Int)) (ck (cO.length+([nth aw cw.toNat]:O Event).length<=1000000000) (ck (dp (cw+1)) (some (.inl (cO++([nth aw cw.toNat]:O Event),cw+1)))))) else ck (dp (cw+1)) (some (.inl (cO,cw+1))))) else some (.inr cO)
def vk (aw:O Event) (Cm:Int):J (O Event) :=
 loop (λs=>qg aw Cm s.1 s.2) (([]:O Event),0)
def rA (lK:O aa):J Bool :=
 some (decide ((lK.length:Int)<=30))
def pq (lK:O aa) (bF:Int):J (Int ⊕ Bool) :=
 if ((decide (bF<(lK.length:Int))) && (decide (bF<31)))=true then (ck ((0:Int)<=bF/\bF<(lK.length:Int)) (ck ((!(decide ((((nth lK bF.toNat).a).length:Int) > 200)))=true->((0:Int)<=bF/\bF<(lK.length:Int))) (if ((decide ((((nth lK bF.toNat).a).length:Int) > 200)) || (decide ((((nth lK bF.toNat).b).length:Int) > 200)))=true then some (.inr false) else ck (dp (bF+1)) (some (.inl (bF+1)))))) else (rA lK).map (λz=>.inr z)
def xg (lK:O aa):J Bool :=
 loop (λs=>pq lK s) 0
def oI (AP:Int) (P8:Int) (KC:Int):J Bool :=
 some ((decide (AP>=P8)) && (decide (AP<=KC)))
def qO (v0:aa):J Int :=
 (oI v0.source 1 99).bind λy1=>(cG (!(!y1)) (oI v0.aF 1 999999999)).bind λy2=>if ((!y1) || (!y2))=true then some 6 else (oI v0.kind 1 4).bind λy3=>if (!y3)=true then some 7 else (ou v0.a).bind λy4=>if (!y4)=true then some 12 else (ou v0.b).bind λy5=>if ((!y5) && ((v0.b != ([]:O uA)) || ((v0.kind != 3) && (v0.kind != 4))))=true then some 12 else (oI v0.start 0 12622780799).bind λy6=>if (!y6)=true then some 15 else (oI v0.cX 0 1099511627776).bind λy7=>if ((!y7) || ((v0.kind==1) && (decide (v0.cX > 604800))))=true then some 6 else ck ((v0.kind==1)=true->(dp (v0.start+v0.cX))) (if ((v0.kind==1) && (decide ((v0.start+v0.cX) > 12622780800)))=true then some 15 else (oI v0.call 0 999999999).bind λy8=>(cG (!(!y8)) (oI v0.part 0 99)).bind λy9=>if ((!y8) || (!y9))=true then some 6 else if (((v0.part==0) != (v0.call==0)) || (v0.last && (v0.part==0)))=true then some 8 else (oI v0.dh 0 999).bind λIj=>if (!Ij)=true then some 6 else if (v0.bL && (v0.dh==0))=true then some 8 else some 0)
def ll (nS:aa):J Int :=
 (qO nS).bind λy1=>some y1
def qh (aw:O Event) (Cm:Int) (cw:Int) (ca:O aq) (jn:O Sub) (jo:O Int):J ((Int×O aq×O Sub×O Int) ⊕ aj) :=
 if (decide (cw<(aw.length:Int)))=true then (ck ((0:Int)<=cw/\cw<(aw.length:Int)) (if (decide (((nth aw cw.toNat).at_)<=Cm))=true then (ck ((0:Int)<=cw/\cw<(aw.length:Int)) ((iT (⟨ca,jn,jo⟩:aj) (nth aw cw.toNat)).bind λy1=>ck (dp (cw+1)) (some (.inl (cw+1,y1.aO,y1.bp,y1.ended))))) else ck (dp (cw+1)) (some (.inl (cw+1,ca,jn,jo))))) else some (.inr (⟨ca,jn,jo⟩:aj))
def sy (aw:O Event) (Cm:Int):J aj :=
 loop (λs=>qh aw Cm s.1 s.2.1 s.2.2.1 s.2.2.2) (0,([]:O aq),([]:O Sub),([]:O Int))
def oJ (y1:aj) (wB:Int) (bX:O aq) (y2:Int) (yf:O Int):J ((Int×O aq) ⊕ cD) :=
 ck (bX.length+([(⟨(nth y1.aO y2.toNat).id,(nth y1.aO y2.toNat).since,(nth y1.aO y2.toNat).anchor,(nth y1.aO y2.toNat).gJ,(nth y1.aO y2.toNat).closed,yf⟩:aq)]:O aq).length<=1000000000) (ck (dp (wB+1)) (some (.inl (wB+1,bX++([(⟨(nth y1.aO y2.toNat).id,(nth y1.aO y2.toNat).since,(nth y1.aO y2.toNat).anchor,(nth y1.aO y2.toNat).gJ,(nth y1.aO y2.toNat).closed,yf⟩:aq)]:O aq)))))
def rB (y1:aj) (il:O Sub) (wB:Int) (bX:O aq) (y2:Int) (pG:Int) (vl:O Int):J ((Int×O Int) ⊕ ((Int×O aq) ⊕ cD)) :=
 if (decide (pG<(il.length:Int)))=true then (ck ((0:Int)<=pG/\pG<(il.length:Int)) (if (((nth il pG.toNat).az)==wB)=true then (ck ((0:Int)<=pG/\pG<(il.length:Int)) (ck (vl.length+([(nth il pG.toNat).id]:O Int).length<=1000000000) (ck (dp (pG+1)) (some (.inl (pG+1,vl++([(nth il pG.toNat).id]:O Int))))))) else ck (dp (pG+1)) (some (.inl (pG+1,vl))))) else (oJ y1 wB bX y2 vl).map (λz=>.inr z)
def rC (y1:aj) (il:O Sub) (wB:Int) (bX:O aq):J ((Int×O aq) ⊕ cD) :=
 if ((decide (wB<=9999)) && (decide ((bX.length:Int)<(y1.aO.length:Int))))=true then ((lI y1 wB).bind λy2=>if (decide (y2<0))=true then (ck (dp (wB+1)) (some (.inl (wB+1,bX)))) else ck ((0:Int)<=y2/\y2<(y1.aO.length:Int)) (loop (λs=>rB y1 il wB bX y2 s.1 s.2) (0,([]:O Int)))) else some (.inr (⟨bX,il⟩:cD))
def mB (y1:aj) (il:O Sub):J cD :=
 loop (λs=>rC y1 il s.1 s.2) (1,([]:O aq))
def rD (y1:aj) (CS:Int) (sA:O Sub):J ((Int×O Sub) ⊕ cD) :=
 ck ((decide (CS<=9999))=true->(dp ((y1.bp.length:Int) - (y1.ended.length:Int)))) (if ((decide (CS<=9999)) && (decide ((sA.length:Int)<((y1.bp.length:Int) - (y1.ended.length:Int)))))=true then ((ph y1 CS).bind λy3=>(cG (decide (y3>=0)) (mN y1 CS)).bind λy4=>if ((decide (y3>=0)) && (!y4))=true then (ck ((0:Int)<=y3/\y3<(y1.bp.length:Int)) (ck (sA.length+([nth y1.bp y3.toNat]:O Sub).length<=1000000000) (ck (dp (CS+1)) (some (.inl (CS+1,sA++([nth y1.bp y3.toNat]:O Sub))))))) else ck (dp (CS+1)) (some (.inl (CS+1,sA)))) else (mB y1 sA).map (λz=>.inr z))
def tj (v0:O Event) (v1:Int):J cD :=
 (sy v0 v1).bind λy1=>loop (λs=>rD y1 s.1 s.2) (1,([]:O Sub))
def oK (dE:O uA) (y1:cD) (cj:Int):J (Int ⊕ (Int×Bool)) :=
 if (decide (cj<(y1.bp.length:Int)))=true then (ck ((0:Int)<=cj/\cj<(y1.bp.length:Int)) ((pj (nth y1.bp cj.toNat).numbers dE).bind λy2=>if y2=true then (ck ((0:Int)<=cj/\cj<(y1.bp.length:Int)) (some (.inr ((nth y1.bp cj.toNat).id,true)))) else ck (dp (cj+1)) (some (.inl (cj+1))))) else some (.inr (0,false))
def tn (aw:O Event) (dE:O uA) (KB:Int):J (Int×Bool) :=
 (tj aw KB).bind λy1=>loop (λs=>oK dE y1 s) 0
def xh (aw:O Event) (ye:Int) (KB:Int):J (Sub×Bool) :=
 (sy aw KB).bind λy1=>(ph y1 ye).bind λy2=>(cG (!(decide (y2<0))) (mN y1 ye)).bind λy3=>if ((decide (y2<0)) || y3)=true then some ((⟨0,0,0,([]:O uA),([]:O (O uA)),([]:O (O uA)),false,false⟩:Sub),false) else ck ((0:Int)<=y2/\y2<(y1.bp.length:Int)) (some (nth y1.bp y2.toNat,true))
def ki (v0:O Event) (v1:aa) (v2:Int) (O1:O uA):J (aA×Int) :=
 (tn v0 O1 v1.start).bind λy2=>if ((!y2.2) || (O1==([]:O uA)))=true then some ((⟨0,0,0,0,([]:O uA),([]:O uA),0,0,0,false,0,0⟩:aA),11) else (xh v0 y2.1 v1.start).bind λy3=>if (y3.1.bY && (!v1.bL))=true then some ((⟨0,0,0,0,([]:O uA),([]:O uA),0,0,0,false,0,0⟩:aA),16) else some ((⟨v2,v1.kind,y3.1.az,y2.1,v1.a,v1.b,v1.start,v1.cX,v1.dh,v1.bL,v1.source,v1.aF⟩:aA),0)
def oL (v0:O Event) (v1:aa) (v2:Int):J (aA×Int) :=
 (ll v1).bind λy1=>if (y1 != 0)=true then some ((⟨0,0,0,0,([]:O uA),([]:O uA),0,0,0,false,0,0⟩:aA),y1) else if (v1.part != 0)=true then some ((⟨0,0,0,0,([]:O uA),([]:O uA),0,0,0,false,0,0⟩:aA),8) else if v1.bL=true then (ki v0 v1 v2 v1.b) else ki v0 v1 v2 v1.a
def oM (iy:ah) (fk:O aA) (ja:O aa):J ah :=
 ck (iy.br.length<=1000000000) (some (⟨iy.al,fk,ja,iy.br⟩:ah))
def oN (aw:O Event) (iy:ah) (fm:O aa) (cE:O aA) (fp:O aa) (cj:Int):J ((O aA×O aa×Int) ⊕ ah) :=
 if (decide (cj<(fm.length:Int)))=true then (ck ((0:Int)<=cj/\cj<(fm.length:Int)) (ck (dp ((cE.length:Int)+1)) ((oL aw (nth fm cj.toNat) ((cE.length:Int)+1)).bind λy1=>if (y1.2==0)=true then (ck (cE.length+([y1.1]:O aA).length<=1000000000) (ck (dp (cj+1)) (some (.inl (cE++([y1.1]:O aA),fp,cj+1))))) else ck ((0:Int)<=cj/\cj<(fm.length:Int)) (ck (fp.length+([nth fm cj.toNat]:O aa).length<=1000000000) (ck (dp (cj+1)) (some (.inl (cE,fp++([nth fm cj.toNat]:O aa),cj+1)))))))) else (oM iy cE fp).map (λz=>.inr z)
def qP (aw:O Event) (iy:ah) (fm:O aa):J ah :=
 ck (([]:O aA).length+iy.usages.length<=1000000000) (ck (([]:O aa).length+iy.aH.length<=1000000000) (loop (λs=>oN aw iy fm s.1 s.2.1 s.2.2) (([]:O aA)++iy.usages,([]:O aa)++iy.aH,0)))
def tp (aw:O Event) (iy:ah):J ah :=
 (qP aw (⟨iy.al,iy.usages,([]:O aa),iy.br⟩:ah) iy.aH).bind λy1=>some y1
def oO (au:O aa) (mX:O Int):J ((O Int) ⊕ (O Int)) :=
 if (decide ((mX.length:Int) > 0))=true then ((jP au mX).bind λy2=>(gO y2.1).bind λy3=>if y3.2=true then some (.inr mX) else ck (dp ((mX.length:Int) - 1)) (ck ((0:Int)<=(mX.length:Int) - 1/\(mX.length:Int) - 1<=(mX.length:Int)) (some (.inl (mX.take ((mX.length:Int) - 1).toNat))))) else some (.inr ([]:O Int))
def ln (au:O aa):J (O Int) :=
 (gN au false).bind λy1=>loop (λs=>oO au s) y1
def lq (nS:aa) (bK:Int):J Bool :=
 some (decide (nS.start>=bK))
def mY (bV:O aa) (bK:Int) (aW:Int):J (Int ⊕ Int) :=
 if (decide (aW<(bV.length:Int)))=true then (ck ((0:Int)<=aW/\aW<(bV.length:Int)) ((lq (nth bV aW.toNat) bK).bind λy1=>if y1=true then some (.inr aW) else ck (dp (aW+1)) (some (.inl (aW+1))))) else some (.inr (-1))
def nv (bV:O aa) (bK:Int):J Int :=
 loop (λs=>mY bV bK s) 0
def nw (bV:O aa) (bK:Int):J Bool :=
 (nv bV bK).bind λy1=>some (decide (y1>=0))
def kx (cz:O aa) (aW:O aa) (y3:Int×Int) (y6:(O aa)×(O aa)) (yg:O aa) (yP:Int):J ((O aa×Int) ⊕ ((O aa×O aa×O aa) ⊕ ((O aa)×(O aa)))) :=
 if (decide (yP<(y6.2.length:Int)))=true then (ck ((0:Int)<=yP/\yP<(y6.2.length:Int)) ((je (nth y6.2 yP.toNat)).bind λy7=>ck (yg.length+([y7]:O aa).length<=1000000000) (ck (dp (yP+1)) (some (.inl (yg++([y7]:O aa),yP+1)))))) else some (.inr (.inl (yg,cz,aW.drop y3.2.toNat)))
def eV (cz:O aa) (aW:O aa) (y3:Int×Int) (y6:(O aa)×(O aa)) (tP:O aa) (eZ:Int) (kH:Int) (kI:Int) (kJ:O uA) (kK:O uA) (kL:Int) (lM:Int) (D9:Int) (Ea:Int) (Eb:Bool) (pr:Int) (pt:Bool):J ((O aa×O aa×O aa) ⊕ ((O aa)×(O aa))) :=
 loop (λs=>kx cz aW y3 y6 s.1 s.2) (tP,0)
def nM (v1:Int) (mV:O aa) (cz:O aa) (aW:O aa):J ((O aa×O aa×O aa) ⊕ ((O aa)×(O aa))) :=
 if (decide ((aW.length:Int) > 0))=true then (ck ((0:Int)<=0/\0<(aW.length:Int)) ((cg (nth aW (Int.toNat (0)))).bind λy2=>(mr aW y2).bind λy3=>ck ((0:Int)<=y3.2/\y3.2<=(aW.length:Int)) (ck ((0:Int)<=y3.2/\y3.2<=(aW.length:Int)) ((nw (aW.take y3.2.toNat) v1).bind λy4=>if y4=true then (ck (cz.length+(aW.take y3.2.toNat).length<=1000000000) (some (.inl (mV,cz++(aW.take y3.2.toNat),aW.drop y3.2.toNat)))) else (ln (aW.take y3.2.toNat)).bind λy5=>(jP (aW.take y3.2.toNat) y5).bind λy6=>(gO y6.1).bind λy8=>if y8.2=true then (ck (mV.length+([y8.1]:O aa).length<=1000000000) (eV cz aW y3 y6 (mV++([y8.1]:O aa)) y8.1.source y8.1.aF y8.1.kind y8.1.a y8.1.b y8.1.start y8.1.cX y8.1.call y8.1.part y8.1.last y8.1.dh y8.1.bL)) else eV cz aW y3 y6 mV y8.1.source y8.1.aF y8.1.kind y8.1.a y8.1.b y8.1.start y8.1.cX y8.1.call y8.1.part y8.1.last y8.1.dh y8.1.bL)))) else some (.inr (mV,cz))
def kj (v0:O aa) (v1:Int):J ((O aa)×(O aa)) :=
 (dv v0).bind λy1=>loop (λs=>nM v1 s.1 s.2.1 s.2.2) (([]:O aa),([]:O aa),y1)
def oP (bD:aG) (fV:Int):J (aG×(O aa)) :=
 (qq bD).bind λy1=>(kj y1.open_ fV).bind λy2=>some ((⟨y1.seen,y2.2,y1.aP⟩:aG),y2.1)
def de (aU:O aa) (bl:O Event) (bd:O aA) (dn:O aa) (bq:Int):J ((O aA×O aa×Int) ⊕ ((O aA)×(O aa))) :=
 if (decide (bq<(aU.length:Int)))=true then (ck ((0:Int)<=bq/\bq<(aU.length:Int)) (ck (dp ((bd.length:Int)+1)) ((gU bl (nth aU bq.toNat) ((bd.length:Int)+1)).bind λy1=>if (y1.2==0)=true then (ck (bd.length+([y1.1]:O aA).length<=1000000000) (ck (dp (bq+1)) (some (.inl (bd++([y1.1]:O aA),dn,bq+1))))) else ck (dn.length+([nth aU bq.toNat]:O aa).length<=1000000000) (ck (dp (bq+1)) (some (.inl (bd,dn++([nth aU bq.toNat]:O aa),bq+1))))))) else some (.inr (bd,dn))
def fq (aU:O aa) (bK:O Range) (j9:O aa) (ka:O Head) (bB:O ai) (bl:O Event) (aY:O aA) (iZ:O aa):J ((O aA)×(O aa)) :=
 loop (λs=>de aU bl s.1 s.2.1 s.2.2) (aY,iZ,0)
def lr (aw:O Event) (iy:ah) (rE:Int):J ah :=
 (hU aw iy).bind λy1=>(dv y1.2.2.2.2.2.2).bind λy2=>(oP iy.al rE).bind λy3=>(fq y3.2 y3.1.seen y3.1.open_ y3.1.aP y1.2.2.2.2.1 y1.2.2.2.2.2.1 y1.2.2.2.1 y2).bind λy4=>some (⟨y3.1,y4.1,y4.2,y1.2.2.2.2.1⟩:ah)
def oQ (gx:aa) (iA:aa):J Bool :=
 some ((gx.source==iA.source) && (gx.call==iA.call))
def qz (bz:O aa) (tI:aa) (sj:Bool) (mZ:O Int) (cL:Int):J ((O Int×Int) ⊕ (O Int)) :=
 if (decide (cL<(bz.length:Int)))=true then (ck ((0:Int)<=cL/\cL<(bz.length:Int)) ((oQ (nth bz cL.toNat) tI).bind λy1=>ck (y1=true->((0:Int)<=cL/\cL<(bz.length:Int))) (ck (y1=true->(dp ((mZ.length:Int)+1))) (if (y1 && (((nth bz cL.toNat).part)==((mZ.length:Int)+1)))=true then (ck (mZ.length+([cL]:O Int).length<=1000000000) (ck (sj=true->((0:Int)<=cL/\cL<(bz.length:Int))) (if (sj && (nth bz cL.toNat).last)=true then some (.inr (mZ++([cL]:O Int))) else ck (dp (cL+1)) (some (.inl (mZ++([cL]:O Int),cL+1)))))) else ck (dp (cL+1)) (some (.inl (mZ,cL+1))))))) else some (.inr mZ)
def pw (bz:O aa) (tI:aa) (sj:Bool):J (O Int) :=
 loop (λs=>qz bz tI sj s.1 s.2) (([]:O Int),0)
def sQ (aQ:O aa) (gG:O Int) (ch:O aa) (qi:O aa) (wg:Int) (cj:Int):J ((O aa×O aa×Int×Int) ⊕ ((O aa)×(O aa))) :=
 if (decide (cj<(aQ.length:Int)))=true then (ck ((decide (wg<(gG.length:Int)))=true->((0:Int)<=wg/\wg<(gG.length:Int))) (if ((decide (wg<(gG.length:Int))) && ((nth gG wg.toNat)==cj))=true then (ck ((0:Int)<=cj/\cj<(aQ.length:Int)) (ck (ch.length+([nth aQ cj.toNat]:O aa).length<=1000000000) (ck (dp (wg+1)) (ck (dp (cj+1)) (some (.inl (ch++([nth aQ cj.toNat]:O aa),qi,wg+1,cj+1))))))) else ck ((0:Int)<=cj/\cj<(aQ.length:Int)) (ck (qi.length+([nth aQ cj.toNat]:O aa).length<=1000000000) (ck (dp (cj+1)) (some (.inl (ch,qi++([nth aQ cj.toNat]:O aa),wg,cj+1))))))) else some (.inr (ch,qi))
def qJ (aQ:O aa) (gG:O Int):J ((O aa)×(O aa)) :=
 loop (λs=>sQ aQ gG s.1 s.2.1 s.2.2.1 s.2.2.2) (([]:O aa),([]:O aa),0,0)
def oR (v0:O aa) (eZ:Int) (kH:Int) (kI:Int) (kJ:O uA) (kK:O uA) (kL:Int) (lM:Int) (pr:Int) (pt:Bool):J (aa×Bool) :=
 some ((⟨eZ,kH,kI,kJ,kK,kL,lM,0,0,false,pr,pt⟩:aa),decide ((v0.length:Int) > 0))
def rF (v0:O aa) (tQ:Int) (ca:Int) (jn:Int) (jo:Int) (oS:O uA) (oT:O uA) (jm:Int) (gi:Int) (Aq:Int) (Ar:Bool):J ((Int×Int×Int×Int×O uA×O uA×Int×Int×Int×Bool) ⊕ (aa×Bool)) :=
 if (decide (tQ<(v0.length:Int)))=true then (ck ((0:Int)<=tQ/\tQ<(v0.length:Int)) ((cG (!(((nth v0 tQ.toNat).part)==0)) (ll (nth v0 tQ.toNat))).bind λy1=>if ((((nth v0 tQ.toNat).part)==0) || (y1 != 0))=true then some (.inr ((⟨0,0,0,([]:O uA),([]:O uA),0,0,0,0,false,0,false⟩:aa),false)) else ck (dp (gi+((nth v0 tQ.toNat).cX))) (ck ((0:Int)<=0/\0<(v0.length:Int)) ((oQ (nth v0 tQ.toNat) (nth v0 (Int.toNat (0)))).bind λy2=>if ((((((!y2) || ((nth v0 tQ.toNat).kind != (nth v0 (Int.toNat (0))).kind)) || ((nth v0 tQ.toNat).a != (nth v0 (Int.toNat (0))).a)) || ((nth v0 tQ.toNat).b != (nth v0 (Int.toNat (0))).b)) || ((nth v0 tQ.toNat).dh != (nth v0 (Int.toNat (0))).dh)) || ((nth v0 tQ.toNat).bL != (nth v0 (Int.toNat (0))).bL))=true then some (.inr ((⟨0,0,0,([]:O uA),([]:O uA),0,0,0,0,false,0,false⟩:aa),false)) else (ll (⟨(nth v0 (Int.toNat (0))).source,(nth v0 (Int.toNat (0))).aF,(nth v0 (Int.toNat (0))).kind,(nth v0 (Int.toNat (0))).a,(nth v0 (Int.toNat (0))).b,(nth v0 (Int.toNat (0))).start,gi+((nth v0 tQ.toNat).cX),0,0,false,(nth v0 (Int.toNat (0))).dh,(nth v0 (Int.toNat (0))).bL⟩:aa)).bind λy3=>if (y3 != 0)=true then some (.inr ((⟨0,0,0,([]:O uA),([]:O uA),0,0,0,0,false,0,false⟩:aa),false)) else ck (dp (tQ+1)) (some (.inl (tQ+1,(nth v0 (Int.toNat (0))).source,(nth v0 (Int.toNat (0))).aF,(nth v0 (Int.toNat (0))).kind,(nth v0 (Int.toNat (0))).a,(nth v0 (Int.toNat (0))).b,(nth v0 (Int.toNat (0))).start,gi+((nth v0 tQ.toNat).cX),(nth v0 (Int.toNat (0))).dh,(nth v0 (Int.toNat (0))).bL))))))) else (oR v0 ca jn jo oS oT jm gi Aq Ar).map (λz=>.inr z)
def mO (v0:O aa):J (aa×Bool) :=
 loop (λs=>rF v0 s.1 s.2.1 s.2.2.1 s.2.2.2.1 s.2.2.2.2.1 s.2.2.2.2.2.1 s.2.2.2.2.2.2.1 s.2.2.2.2.2.2.2.1 s.2.2.2.2.2.2.2.2.1 s.2.2.2.2.2.2.2.2.2) (0,0,0,0,([]:O uA),([]:O uA),0,0,0,false)
def wh (Se:aa):J aa :=
 some (⟨Se.source,Se.aF,Se.kind,Se.a,Se.b,Se.start,Se.cX,0,0,false,Se.dh,Se.bL⟩:aa)
def uI (y2:(O aa)×(O aa)) (bq:O aa) (bw:Int):J ((O aa×Int) ⊕ (O aa)) :=
 if (decide (bw<(y2.2.length:Int)))=true then (ck ((0:Int)<=bw/\bw<(y2.2.length:Int)) ((wh (nth y2.2 bw.toNat)).bind λy3=>ck (bq.length+([y3]:O aa).length<=1000000000) (ck (dp (bw+1)) (some (.inl (bq++([y3]:O aa),bw+1)))))) else some (.inr bq)
def na (y2:(O aa)×(O aa)) (G6:O aa) (Ec:Int) (Ed:Int) (Ee:Int) (Ef:O uA) (Eg:O uA) (Eh:Int) (ru:Int) (Ei:Int) (Ej:Int) (Ek:Bool) (As:Int) (Au:Bool):J (O aa) :=
 loop (λs=>uI y2 s.1 s.2) (G6,0)
def nf (v0:O aa) (RA:O Int):J (O aa) :=
 (qJ v0 RA).bind λy2=>(mO y2.1).bind λy4=>if y4.2=true then (ck (([]:O aa).length+([y4.1]:O aa).length<=1000000000) (na y2 (([]:O aa)++([y4.1]:O aa)) y4.1.source y4.1.aF y4.1.kind y4.1.a y4.1.b y4.1.start y4.1.cX y4.1.call y4.1.part y4.1.last y4.1.dh y4.1.bL)) else na y2 ([]:O aa) y4.1.source y4.1.aF y4.1.kind y4.1.a y4.1.b y4.1.start y4.1.cX y4.1.call y4.1.part y4.1.last y4.1.dh y4.1.bL
def yh (v0:O aa) (vQ:O Int):J ((O Int) ⊕ (O aa)) :=
 if (decide ((vQ.length:Int) > 0))=true then ((qJ v0 vQ).bind λy5=>(mO y5.1).bind λy6=>if y6.2=true then ((nf v0 vQ).map (λz=>.inr z)) else ck (dp ((vQ.length:Int) - 1)) (ck ((0:Int)<=(vQ.length:Int) - 1/\(vQ.length:Int) - 1<=(vQ.length:Int)) (some (.inl (vQ.take ((vQ.length:Int) - 1).toNat))))) else (nf v0 vQ).map (λz=>.inr z)
def uW (v0:O aa):J (O aa) :=
 ck ((0:Int)<=0/\0<(v0.length:Int)) ((pw v0 (nth v0 (Int.toNat (0))) false).bind λy1=>loop (λs=>yh v0 s) y1)
def jq (bz:O aa) (ch:O aa) (gC:O aa) (cL:Int) (tq:Int) (uX:Bool):J ((O aa×O aa×Int) ⊕ ((O aa)×(O aa))) :=
 if uX=true then (ck ((0:Int)<=cL/\cL<=tq/\tq<=(bz.length:Int)) (ck (gC.length+((bz.take tq.toNat).drop cL.toNat).length<=1000000000) (some (.inl (ch,gC++((bz.take tq.toNat).drop cL.toNat),tq))))) else ck ((0:Int)<=cL/\cL<=tq/\tq<=(bz.length:Int)) ((uW ((bz.take tq.toNat).drop cL.toNat)).bind λy1=>ck (ch.length+y1.length<=1000000000) (some (.inl (ch++y1,gC,tq))))
def kP (bz:O aa) (fV:Int) (ch:O aa) (gC:O aa) (cL:Int) (qj:Int) (qQ:Bool):J ((Int×Bool) ⊕ ((O aa×O aa×Int) ⊕ ((O aa)×(O aa)))) :=
 ck ((decide (qj<(bz.length:Int)))=true->((0:Int)<=qj/\qj<(bz.length:Int))) (ck ((decide (qj<(bz.length:Int)))=true->((0:Int)<=cL/\cL<(bz.length:Int))) ((cG (decide (qj<(bz.length:Int))) (oQ (nth bz qj.toNat) (nth bz cL.toNat))).bind λy2=>if ((decide (qj<(bz.length:Int))) && y2)=true then (ck ((!qQ)=true->((0:Int)<=qj/\qj<(bz.length:Int))) (ck (dp (qj+1)) (some (.inl (qj+1,(qQ || (decide (((nth bz qj.toNat).start)>=fV)))))))) else (jq bz ch gC cL qj qQ).map (λz=>.inr z)))
def tR (bz:O aa) (fV:Int) (ch:O aa) (gC:O aa) (cL:Int):J ((O aa×O aa×Int) ⊕ ((O aa)×(O aa))) :=
 if (decide (cL<(bz.length:Int)))=true then (loop (λs=>kP bz fV ch gC cL s.1 s.2) (cL,false)) else some (.inr (ch,gC))
def rG (bz:O aa) (fV:Int):J ((O aa)×(O aa)) :=
 loop (λs=>tR bz fV s.1 s.2.1 s.2.2) (([]:O aa),([]:O aa),0)
def tr (bD:aG) (fV:Int):J (aG×(O aa)) :=
 (rG bD.open_ fV).bind λy1=>ck (bD.seen.length<=1000000000) (ck (bD.aP.length<=1000000000) (some ((⟨bD.seen,y1.2,bD.aP⟩:aG),y1.1)))
def tu (aw:O Event) (iy:ah) (rE:Int):J ah :=
 (tr iy.al rE).bind λy1=>(qP aw iy y1.2).bind λy2=>some (⟨y1.1,y2.usages,y2.aH,y2.br⟩:ah)
def vm (iU:Int) (dE:Int) (zJ:Int):J Int :=
 if ((((decide (iU<1)) || (decide (iU > 99))) || (decide (dE<1))) || (decide (dE > 999999999)))=true then some 6 else if ((decide (zJ<1)) || (decide (zJ>=4)))=true then some 7 else some 0
def km (fD:Batch) (cA:Int):J (Int ⊕ Int) :=
 if (decide (cA<(fD.records.length:Int)))=true then (ck ((0:Int)<=cA/\cA<(fD.records.length:Int)) ((qO (nth fD.records cA.toNat)).bind λy2=>if (y2 != 0)=true then some (.inr y2) else ck ((0:Int)<=cA/\cA<(fD.records.length:Int)) (if ((nth fD.records cA.toNat).source != fD.source)=true then some (.inr 8) else ck (dp (cA+1)) (some (.inl (cA+1)))))) else some (.inr 0)
def tv (fD:Batch):J Int :=
 (vm fD.source fD.number fD.format).bind λy1=>if (y1 != 0)=true then some y1 else if (decide ((fD.records.length:Int) > 4096))=true then some 5 else loop (λs=>km fD s) 0
def sR (nX:O Head) (wz:Int) (vn:Int) (Jv:Int) (cL:Int):J ((Int×Int) ⊕ Int) :=
 if (decide (cL<wz))=true then (ck ((0:Int)<=cL/\cL<(nX.length:Int)) (if (((nth nX cL.toNat).source)==vn)=true then (ck ((0:Int)<=cL/\cL<(nX.length:Int)) (ck (dp (((nth nX cL.toNat).number)+1)) (ck (dp (cL+1)) (some (.inl (((nth nX cL.toNat).number)+1,cL+1)))))) else ck (dp (cL+1)) (some (.inl (Jv,cL+1))))) else some (.inr Jv)
def vo (nX:O Head) (wz:Int) (vn:Int):J Int :=
 loop (λs=>sR nX wz vn s.1 s.2) (1,0)
def vq (bD:aG) (bJ:Int):J Int :=
 if ((decide (bJ<1)) || (decide (bJ > 99)))=true then some 0 else (vo bD.aP (bD.aP.length:Int) bJ).bind λy1=>some y1
def uJ (nS:aa) (FZ:bU):J Int :=
 if ((decide (nS.start<FZ.eJ)) || (decide (nS.start > FZ.jl)))=true then some 15 else some 0
def mC (iU:Int) (oz:Int):J Bool :=
 some ((((decide (iU>=1)) && (decide (iU<=99))) && (decide (oz>=1))) && (decide (oz<=999999999)))
def uK (aZ:O Range) (bJ:Int) (cY:Int) (eX:Int):J (Int ⊕ Bool) :=
 if (decide (eX<(aZ.length:Int)))=true then (ck ((0:Int)<=eX/\eX<(aZ.length:Int)) (ck ((((nth aZ eX.toNat).source)==bJ)=true->((0:Int)<=eX/\eX<(aZ.length:Int))) (ck (((((nth aZ eX.toNat).source)==bJ) && (decide (((nth aZ eX.toNat).from_)<=cY)))=true->((0:Int)<=eX/\eX<(aZ.length:Int))) (if (((((nth aZ eX.toNat).source)==bJ) && (decide (((nth aZ eX.toNat).from_)<=cY))) && (decide (cY<=((nth aZ eX.toNat).kV))))=true then ((mC bJ cY).bind λy1=>some (.inr y1)) else ck (dp (eX+1)) (some (.inl (eX+1))))))) else some (.inr false)
def xi (aZ:O Range) (bJ:Int) (cY:Int):J Bool :=
 loop (λs=>uK aZ bJ cY s) 0
def rH (v1:Int) (Iv:O Range) (Jw:Bool) (ng:Int) (nh:Int):J ((O Range)×Bool) :=
 if (!Jw)=true then (ck (Iv.length+([(⟨v1,ng,nh⟩:Range)]:O Range).length<=1000000000) (some (Iv++([(⟨v1,ng,nh⟩:Range)]:O Range),true))) else some (Iv,true)
def uL (v0:O Range) (v1:Int) (v2:Int) (aW:O Range) (bq:Bool) (bg:Int) (fR:Int) (fS:Int):J ((O Range×Bool×Int×Int×Int) ⊕ ((O Range)×Bool)) :=
 if (decide (bg<(v0.length:Int)))=true then (ck ((0:Int)<=bg/\bg<(v0.length:Int)) (ck ((((nth v0 bg.toNat).source)==v1)=true->(dp (((nth v0 bg.toNat).kV)+1))) (if ((((nth v0 bg.toNat).source)==v1) && ((((nth v0 bg.toNat).kV)+1)==v2))=true then (ck (dp (bg+1)) (some (.inl (aW,bq,bg+1,(nth v0 bg.toNat).from_,fS)))) else ck ((((nth v0 bg.toNat).source)==v1)=true->(dp ((nth v0 bg.toNat).from_ - 1))) (if ((((nth v0 bg.toNat).source)==v1) && (((nth v0 bg.toNat).from_ - 1)==v2))=true then (ck (dp (bg+1)) (some (.inl (aW,bq,bg+1,fR,(nth v0 bg.toNat).kV)))) else if ((bq || (decide ((nth v0 bg.toNat).source<v1))) || ((((nth v0 bg.toNat).source)==v1) && (decide ((nth v0 bg.toNat).kV<v2))))=true then (ck (aW.length+([nth v0 bg.toNat]:O Range).length<=1000000000) (ck (dp (bg+1)) (some (.inl (aW++([nth v0 bg.toNat]:O Range),bq,bg+1,fR,fS))))) else ck (aW.length+([(⟨v1,fR,fS⟩:Range),nth v0 bg.toNat]:O Range).length<=1000000000) (ck (dp (bg+1)) (some (.inl (aW++([(⟨v1,fR,fS⟩:Range),nth v0 bg.toNat]:O Range),true,bg+1,fR,fS)))))))) else (rH v1 aW bq fR fS).map (λz=>.inr z)
def xj (v0:O Range) (v1:Int) (v2:Int):J ((O Range)×Bool) :=
 (mC v1 v2).bind λy1=>(cG (!(!y1)) (xi v0 v1 v2)).bind λy2=>if ((!y1) || y2)=true then some (([]:O Range),false) else loop (λs=>uL v0 v1 v2 s.1 s.2.1 s.2.2.1 s.2.2.2.1 s.2.2.2.2) (([]:O Range),false,0,v2,v2)
def rJ (gx:aa) (iA:aa):J Bool :=
 if (gx.source != iA.source)=true then some (decide (gx.source<iA.source)) else if (gx.call != iA.call)=true then some (decide (gx.call<iA.call)) else some (decide (gx.part<iA.part))
def nz (Ik:aa) (sS:O aa) (xk:Bool):J (O aa) :=
 if (!xk)=true then (ck (sS.length+([Ik]:O aa).length<=1000000000) (some (sS++([Ik]:O aa)))) else some sS
def kQ (bz:O aa) (eX:Int) (uM:O aa) (xl:Bool):J ((O aa×Bool×Int) ⊕ (O aa)) :=
 ck ((0:Int)<=eX/\eX<(bz.length:Int)) (ck (uM.length+([nth bz eX.toNat]:O aa).length<=1000000000) (ck (dp (eX+1)) (some (.inl (uM++([nth bz eX.toNat]:O aa),xl,eX+1)))))
def qA (bz:O aa) (Ik:aa) (cO:O aa) (oU:Bool) (eX:Int):J ((O aa×Bool×Int) ⊕ (O aa)) :=
 if (decide (eX<(bz.length:Int)))=true then (ck ((!oU)=true->((0:Int)<=eX/\eX<(bz.length:Int))) ((cG (!oU) (rJ Ik (nth bz eX.toNat))).bind λy1=>if ((!oU) && y1)=true then (ck (cO.length+([Ik]:O aa).length<=1000000000) (kQ bz eX (cO++([Ik]:O aa)) true)) else kQ bz eX cO oU)) else (nz Ik cO oU).map (λz=>.inr z)
def rK (bz:O aa) (Ik:aa):J (O aa) :=
 loop (λs=>qA bz Ik s.1 s.2.1 s.2.2) (([]:O aa),false,0)
def lu (au:O aa):J (aa×Bool) :=
 (mO au).bind λy1=>some (y1.1,y1.2)
def nY (au:O aa) (cA:Int):J (Int ⊕ (aa×Bool)) :=
 if (decide (cA<(au.length:Int)))=true then (ck ((0:Int)<=cA/\cA<(au.length:Int)) (ck (dp (cA+1)) (ck ((!((nth au cA.toNat).part != (cA+1)))=true->((0:Int)<=cA/\cA<(au.length:Int))) (ck ((!((nth au cA.toNat).part != (cA+1)))=true->(dp (cA+1))) (if (((nth au cA.toNat).part != (cA+1)) || ((nth au cA.toNat).last != ((cA+1)==(au.length:Int))))=true then some (.inr ((⟨0,0,0,([]:O uA),([]:O uA),0,0,0,0,false,0,false⟩:aa),false)) else ck (dp (cA+1)) (some (.inl (cA+1)))))))) else (lu au).map (λz=>.inr z)
def oV (au:O aa):J (aa×Bool) :=
 loop (λs=>nY au s) 0
def sU (v1:O aa) (aW:Int) (yg:O aa) (O2:O aa):J ((O aa×O aa) ⊕ ((O aa×O aa×Int) ⊕ ((O aa)×(O aa)))) :=
 ck ((0:Int)<=aW/\aW<(v1.length:Int)) ((pw O2 (nth v1 aW.toNat) true).bind λy2=>(qJ O2 y2).bind λy3=>(oV y3.1).bind λy4=>if (!y4.2)=true then (ck (dp (aW+1)) (some (.inr (.inl (yg,O2,aW+1))))) else ck (yg.length+([y4.1]:O aa).length<=1000000000) (some (.inl (yg++([y4.1]:O aa),y3.2))))
def sV (v1:O aa) (mV:O aa) (cz:O aa) (aW:Int):J ((O aa×O aa×Int) ⊕ ((O aa)×(O aa))) :=
 if (decide (aW<(v1.length:Int)))=true then (ck ((0:Int)<=aW/\aW<(v1.length:Int)) (if (((nth v1 aW.toNat).part)==0)=true then (ck ((0:Int)<=aW/\aW<(v1.length:Int)) (ck (mV.length+([nth v1 aW.toNat]:O aa).length<=1000000000) (ck (dp (aW+1)) (some (.inl (mV++([nth v1 aW.toNat]:O aa),cz,aW+1)))))) else ck ((0:Int)<=aW/\aW<(v1.length:Int)) ((rK cz (nth v1 aW.toNat)).bind λy1=>loop (λs=>sU v1 aW s.1 s.2) (mV,y1)))) else some (.inr (mV,cz))
def vr (v0:O aa) (v1:O aa):J ((O aa)×(O aa)) :=
 ck (v0.length<=1000000000) (loop (λs=>sV v1 s.1 s.2.1 s.2.2) (([]:O aa),v0,0))
def nA (v0:aG) (v1:Batch) (G7:O Range) (G8:O aa) (mM:O ai):J (aG×(O aa)×(O ai)×Int) :=
 (vr v0.open_ G8).bind λy3=>ck (([]:O Head).length+v0.aP.length<=1000000000) (ck ((([]:O Head)++v0.aP).length+([(⟨v1.source,v1.number,v1.format,(v1.records.length:Int)⟩:Head)]:O Head).length<=1000000000) (some ((⟨G7,y3.2,(([]:O Head)++v0.aP)++([(⟨v1.source,v1.number,v1.format,(v1.records.length:Int)⟩:Head)]:O Head)⟩:aG),y3.1,mM,0)))
def jr (v1:Batch) (bg:O Range) (rW:O aa) (bw:O ai) (fW:Int) (Bq:Int):J ((O Range×O aa×O ai×Int) ⊕ (aG×(O aa)×(O ai)×Int)) :=
 ck (bw.length+([(⟨(nth v1.records fW.toNat).source,(nth v1.records fW.toNat).aF,fW,Bq⟩:ai)]:O ai).length<=1000000000) (ck (dp (fW+1)) (some (.inl (bg,rW,bw++([(⟨(nth v1.records fW.toNat).source,(nth v1.records fW.toNat).aF,fW,Bq⟩:ai)]:O ai),fW+1))))
def qB (v0:aG) (v1:Batch) (v2:bU) (bg:O Range) (rW:O aa) (bw:O ai) (fW:Int):J ((O Range×O aa×O ai×Int) ⊕ (aG×(O aa)×(O ai)×Int)) :=
 if (decide (fW<(v1.records.length:Int)))=true then (ck ((0:Int)<=fW/\fW<(v1.records.length:Int)) ((uJ (nth v1.records fW.toNat) v2).bind λy4=>if (y4==0)=true then ((xj bg (nth v1.records fW.toNat).source (nth v1.records fW.toNat).aF).bind λy5=>if y5.2=true then (ck (rW.length+([nth v1.records fW.toNat]:O aa).length<=1000000000) (ck (dp (fW+1)) (some (.inl (y5.1,rW++([nth v1.records fW.toNat]:O aa),bw,fW+1))))) else jr v1 bg rW bw fW 13) else jr v1 bg rW bw fW y4)) else (nA v0 v1 bg rW bw).map (λz=>.inr z)
def rL (v0:aG) (v1:Batch) (v2:bU):J (aG×(O aa)×(O ai)×Int) :=
 (tv v1).bind λy1=>if (y1 != 0)=true then some ((⟨([]:O Range),([]:O aa),([]:O Head)⟩:aG),([]:O aa),([]:O ai),y1) else (vq v0 v1.source).bind λy2=>if (v1.number != y2)=true then some ((⟨([]:O Range),([]:O aa),([]:O Head)⟩:aG),([]:O aa),([]:O ai),20) else ck (v0.seen.length<=1000000000) (loop (λs=>qB v0 v1 v2 s.1 s.2.1 s.2.2.1 s.2.2.2) (v0.seen,([]:O aa),([]:O ai),0))
def oW (iy:ah) (fk:O aA) (ja:O aa):J ((O Range)×(O aa)×(O Head)×(O aA)×(O aa)×(O ai)) :=
 ck (([]:O ai).length+iy.br.length<=1000000000) (some (iy.al.seen,iy.al.open_,iy.al.aP,fk,ja,([]:O ai)++iy.br))
def oX (aw:O Event) (iy:ah) (fm:O aa) (cE:O aA) (fp:O aa) (cj:Int):J ((O aA×O aa×Int) ⊕ ((O Range)×(O aa)×(O Head)×(O aA)×(O aa)×(O ai))) :=
 if (decide (cj<(fm.length:Int)))=true then (ck ((0:Int)<=cj/\cj<(fm.length:Int)) (ck (dp ((cE.length:Int)+1)) ((oL aw (nth fm cj.toNat) ((cE.length:Int)+1)).bind λy1=>if (y1.2==0)=true then (ck (cE.length+([y1.1]:O aA).length<=1000000000) (ck (dp (cj+1)) (some (.inl (cE++([y1.1]:O aA),fp,cj+1))))) else ck ((0:Int)<=cj/\cj<(fm.length:Int)) (ck (fp.length+([nth fm cj.toNat]:O aa).length<=1000000000) (ck (dp (cj+1)) (some (.inl (cE,fp++([nth fm cj.toNat]:O aa),cj+1)))))))) else (oW iy cE fp).map (λz=>.inr z)
def tw (aw:O Event) (iy:ah) (fm:O aa):J ((O Range)×(O aa)×(O Head)×(O aA)×(O aa)×(O ai)) :=
 ck (([]:O aA).length+iy.usages.length<=1000000000) (ck (([]:O aa).length+iy.aH.length<=1000000000) (loop (λs=>oX aw iy fm s.1 s.2.1 s.2.2) (([]:O aA)++iy.usages,([]:O aa)++iy.aH,0)))
def vt (aw:O Event) (iy:ah) (v2b:Batch) (v3w:bU):J (ah×Int) :=
 (rL iy.al v2b v3w).bind λy1=>if (y1.2.2.2 != 0)=true then some ((⟨(⟨([]:O Range),([]:O aa),([]:O Head)⟩:aG),([]:O aA),([]:O aa),([]:O ai)⟩:ah),y1.2.2.2) else (tw aw iy y1.2.1).bind λy2=>ck (y2.2.2.2.2.2.length+y1.2.2.1.length<=1000000000) (some ((⟨y1.1,y2.2.2.2.1,y2.2.2.2.2.1,y2.2.2.2.2.2++y1.2.2.1⟩:ah),0))
def sW (gx:O Range) (iA:O Range) (aI:Int):J (Int ⊕ Bool) :=
 if (decide (aI<(gx.length:Int)))=true then (ck ((0:Int)<=aI/\aI<(gx.length:Int)) (ck ((0:Int)<=aI/\aI<(iA.length:Int)) (if (!(et (Range.bM (nth gx aI.toNat)) (Range.bM (nth iA aI.toNat))))=true then some (.inr false) else ck (dp (aI+1)) (some (.inl (aI+1)))))) else some (.inr true)
def vu (gx:O Range) (iA:O Range):J Bool :=
 if ((gx.length:Int) != (iA.length:Int))=true then some false else loop (λs=>sW gx iA s) 0
def sX (gx:O aa) (iA:O aa) (aI:Int):J (Int ⊕ Bool) :=
 if (decide (aI<(gx.length:Int)))=true then (ck ((0:Int)<=aI/\aI<(gx.length:Int)) (ck ((0:Int)<=aI/\aI<(iA.length:Int)) (if (!(et (aa.bM (nth gx aI.toNat)) (aa.bM (nth iA aI.toNat))))=true then some (.inr false) else ck (dp (aI+1)) (some (.inl (aI+1)))))) else some (.inr true)
def sB (gx:O aa) (iA:O aa):J Bool :=
 if ((gx.length:Int) != (iA.length:Int))=true then some false else loop (λs=>sX gx iA s) 0
def qk (gx:aG) (iA:aG):J Bool :=
 (vu gx.seen iA.seen).bind λy1=>(cG y1 (sB gx.open_ iA.open_)).bind λy2=>some (y1 && y2)
def sY (gx:aG) (iA:aG) (aI:Int):J (Int ⊕ Bool) :=
 if (decide (aI<(gx.aP.length:Int)))=true then (ck ((0:Int)<=aI/\aI<(gx.aP.length:Int)) (ck ((0:Int)<=aI/\aI<(iA.aP.length:Int)) (if (!(et (Head.bM (nth gx.aP aI.toNat)) (Head.bM (nth iA.aP aI.toNat))))=true then some (.inr false) else ck (dp (aI+1)) (some (.inl (aI+1)))))) else (qk gx iA).map (λz=>.inr z)
def vv (gx:aG) (iA:aG):J Bool :=
 if ((gx.aP.length:Int) != (iA.aP.length:Int))=true then some false else loop (λs=>sY gx iA s) 0
def sZ (gx:O aA) (iA:O aA) (aI:Int):J (Int ⊕ Bool) :=
 if (decide (aI<(gx.length:Int)))=true then (ck ((0:Int)<=aI/\aI<(gx.length:Int)) (ck ((0:Int)<=aI/\aI<(iA.length:Int)) (if (!(et (aA.bM (nth gx aI.toNat)) (aA.bM (nth iA aI.toNat))))=true then some (.inr false) else ck (dp (aI+1)) (some (.inl (aI+1)))))) else some (.inr true)
def vz (gx:O aA) (iA:O aA):J Bool :=
 if ((gx.length:Int) != (iA.length:Int))=true then some false else loop (λs=>sZ gx iA s) 0
def lv (gx:O ai) (iA:O ai) (aI:Int):J (Int ⊕ Bool) :=
 if (decide (aI<(gx.length:Int)))=true then (ck ((0:Int)<=aI/\aI<(gx.length:Int)) (ck ((0:Int)<=aI/\aI<(iA.length:Int)) (if (!(et (ai.bM (nth gx aI.toNat)) (ai.bM (nth iA aI.toNat))))=true then some (.inr false) else ck (dp (aI+1)) (some (.inl (aI+1)))))) else some (.inr true)
def lx (gx:O ai) (iA:O ai):J Bool :=
 if ((gx.length:Int) != (iA.length:Int))=true then some false else loop (λs=>lv gx iA s) 0
def vA (gx:ah) (iA:ah):J Bool :=
 (vv gx.al iA.al).bind λy1=>(cG y1 (vz gx.usages iA.usages)).bind λy2=>(cG (y1 && y2) (sB gx.aH iA.aH)).bind λy3=>(cG ((y1 && y2) && y3) (lx gx.br iA.br)).bind λy4=>some (((y1 && y2) && y3) && y4)
def oY (aZ:O Range) (qc:Int) (cA:Int):J ((Int×Int) ⊕ Int) :=
 if (decide (cA<(aZ.length:Int)))=true then (ck ((0:Int)<=cA/\cA<(aZ.length:Int)) (ck (dp (qc+((nth aZ cA.toNat).kV))) (ck ((0:Int)<=cA/\cA<(aZ.length:Int)) (ck (dp ((qc+((nth aZ cA.toNat).kV)) - (nth aZ cA.toNat).from_)) (ck (dp (((qc+((nth aZ cA.toNat).kV)) - (nth aZ cA.toNat).from_)+1)) (ck (dp (cA+1)) (some (.inl (((qc+((nth aZ cA.toNat).kV)) - (nth aZ cA.toNat).from_)+1,cA+1))))))))) else some (.inr qc)
def tx (aZ:O Range):J Int :=
 loop (λs=>oY aZ s.1 s.2) (0,0)
def mD (eT:ah) (sx:Int):J bN :=
 (tx eT.al.seen).bind λy1=>ck (dp (y1-(eT.usages.length:Int))) (ck (dp ((y1-(eT.usages.length:Int)) - (eT.aH.length:Int))) (ck (dp (((y1-(eT.usages.length:Int)) - (eT.aH.length:Int)) - (eT.al.open_.length:Int))) (some (⟨sx,(eT.usages.length:Int),((y1-(eT.usages.length:Int)) - (eT.aH.length:Int)) - (eT.al.open_.length:Int),(eT.br.length:Int),(eT.aH.length:Int),(eT.al.open_.length:Int)⟩:bN))))
def mE (eT:ah) (cA:Int) (bX:Int):J ((Int×Int) ⊕ bN) :=
 if (decide (cA<(eT.al.aP.length:Int)))=true then (ck ((0:Int)<=cA/\cA<(eT.al.aP.length:Int)) (ck (dp (bX+((nth eT.al.aP cA.toNat).count))) (ck (dp (cA+1)) (some (.inl (cA+1,bX+((nth eT.al.aP cA.toNat).count))))))) else (mD eT bX).map (λz=>.inr z)
def ql (eT:ah):J bN :=
 loop (λs=>mE eT s.1 s.2) (0,0)
def dt (cz:Int) (bQ:O Range) (ng:O aa) (nh:O Head) (yi:O aA) (yj:O aa) (oD:O ai) (eZ:O Range) (kH:O aa) (kI:O Head) (kJ:O aA) (kK:O aa) (kL:O ai):J ((Int×O Range×O aa×O Head×O aA×O aa×O ai×O Range×O aa×O Head×O aA×O aa×O ai) ⊕ Bool) :=
 (vA (⟨(⟨bQ,ng,nh⟩:aG),yi,yj,oD⟩:ah) (⟨(⟨eZ,kH,kI⟩:aG),kJ,kK,kL⟩:ah)).bind λy6=>(cG (!(!y6)) (gY (⟨(⟨bQ,ng,nh⟩:aG),yi,yj,oD⟩:ah))).bind λy7=>(cG (!((!y6) || (!y7))) (eO (⟨(⟨bQ,ng,nh⟩:aG),yi,yj,oD⟩:ah))).bind λy8=>(cG (!((!y6) || (!y7))) (ql (⟨(⟨eZ,kH,kI⟩:aG),kJ,kK,kL⟩:ah))).bind λy9=>if (((!y6) || (!y7)) || (!(et (bN.bM y8) (bN.bM y9))))=true then some (.inr false) else ck (dp (cz+1)) (some (.inl (cz+1,bQ,ng,nh,yi,yj,oD,eZ,kH,kI,kJ,kK,kL)))
def jG (v0:O Event) (v1:O cM) (cz:Int) (cW:O Range) (fR:O aa) (fS:O Head) (wC:O aA) (e8:O aa) (wD:O ai) (ca:O Range) (jn:O aa) (jo:O Head) (oS:O aA) (oT:O aa) (jm:O ai):J ((Int×O Range×O aa×O Head×O aA×O aa×O ai×O Range×O aa×O Head×O aA×O aa×O ai) ⊕ Bool) :=
 if (decide (cz<(v1.length:Int)))=true then (ck ((0:Int)<=cz/\cz<(v1.length:Int)) ((vk v0 (nth v1 cz.toNat).now).bind λy3=>(xg (((nth v1 cz.toNat).yN).batch).records).bind λy4=>if (!y4)=true then ((qN).bind λy5=>some (.inr y5)) else if (((nth v1 cz.toNat).kind)==1)=true then ((jj y3 (⟨(⟨cW,fR,fS⟩:aG),wC,e8,wD⟩:ah)).bind λIj=>(tp y3 (⟨(⟨ca,jn,jo⟩:aG),oS,oT,jm⟩:ah)).bind λP9=>dt cz Ij.al.seen Ij.al.open_ Ij.al.aP Ij.usages Ij.aH Ij.br P9.al.seen P9.al.open_ P9.al.aP P9.usages P9.aH P9.br) else if (((nth v1 cz.toNat).kind)==2)=true then ((lr y3 (⟨(⟨cW,fR,fS⟩:aG),wC,e8,wD⟩:ah) (nth v1 cz.toNat).before).bind λQa=>(tu y3 (⟨(⟨ca,jn,jo⟩:aG),oS,oT,jm⟩:ah) (nth v1 cz.toNat).before).bind λQb=>dt cz Qa.al.seen Qa.al.open_ Qa.al.aP Qa.usages Qa.aH Qa.br Qb.al.seen Qb.al.open_ Qb.al.aP Qb.usages Qb.aH Qb.br) else (iK y3 (⟨(⟨cW,fR,fS⟩:aG),wC,e8,wD⟩:ah) ((nth v1 cz.toNat).yN).batch ((nth v1 cz.toNat).yN).qH).bind λIw=>(vt y3 (⟨(⟨ca,jn,jo⟩:aG),oS,oT,jm⟩:ah) ((nth v1 cz.toNat).yN).batch ((nth v1 cz.toNat).yN).qH).bind λKD=>if (Iw.2 != KD.2)=true then some (.inr false) else if (Iw.2==0)=true then (dt cz Iw.1.al.seen Iw.1.al.open_ Iw.1.al.aP Iw.1.usages Iw.1.aH Iw.1.br KD.1.al.seen KD.1.al.open_ KD.1.al.aP KD.1.usages KD.1.aH KD.1.br) else dt cz cW fR fS wC e8 wD ca jn jo oS oT jm)) else (qN).bind λy16=>some (.inr y16)
def mb (v0:O Event) (v1:O cM):J Bool :=
 (xd v0).bind λy1=>if ((!y1) || (decide ((v1.length:Int) > 10)))=true then ((qN).bind λy2=>some y2) else loop (λs=>jG v0 v1 s.1 s.2.1 s.2.2.1 s.2.2.2.1 s.2.2.2.2.1 s.2.2.2.2.2.1 s.2.2.2.2.2.2.1 s.2.2.2.2.2.2.2.1 s.2.2.2.2.2.2.2.2.1 s.2.2.2.2.2.2.2.2.2.1 s.2.2.2.2.2.2.2.2.2.2.1 s.2.2.2.2.2.2.2.2.2.2.2.1 s.2.2.2.2.2.2.2.2.2.2.2.2) (0,([]:O Range),([]:O aa),([]:O Head),([]:O aA),([]:O aa),([]:O ai),([]:O Range),([]:O aa),([]:O Head),([]:O aA),([]:O aa),([]:O ai))
end Go.Proofs.YtimkfiaffohhkabGreatDoor
namespace Go.Proofs.YtimkfiaffohhkabGreatDoor
open Go.RowKit Go.Abs Go.Proofs.Tryz
def eE (base:Nat) (w:uC) (v:uB) (n:Nat) (xs:O uB) (v':uB) (w':uC):Prop :=
 w'.ownsRow base 61 12 v' n xs/\((v'.ownBlock=v.ownBlock/\w'.heap.size=w.heap.size/\w.grownBy w' v.ownBlock)∨(v'.ownBlock=some w.heap.size/\Below w.heap.size w w'))
theorem wE {base m:Nat} {w:uC} {u:uB} {ys:O uB} (hu:w.ownsRow base 61 12 u m ys) (h1:∀ y∈ys,y.oneCell'=true):Go.Abs.Src prog w 12 u m ys:=by
 rcases hu.2 with ⟨rfl,rfl⟩|⟨b,cap,cur,rfl,hb,hg,Fm,AL,Ag,yZ⟩
 ·have:ys=[]:=zba (by simpa using hu.1);subst this;exact ⟨rfl,λw' _=>run_firstCells_none w' _ 0 0 _,by simp,by simp⟩
 ·refine ⟨rfl,λw' hw=>run_firstCells_some w' _ m _ m cap ys hu.1 λj y hj=>?_,hu.1,h1⟩;rw[World.cell?_of_block (w:=w) (by rw[hw])];exact hu.cells (g:=b) rfl j y hj
theorem Ix (w:uC) {base n m:Nat} {v u:uB} {xs ys:O uB} (hs:w.ownsRow base 61 12 v n xs) (hu:w.ownsRow base 61 12 u m ys) (hm:0<m) (hb:n+m<=1000000000) (mf:base<=w.heap.size) (h1:∀ y∈ys,y.oneCell'=true) :
  Calls prog 107 #[v,.int .i64 n,u] w λe w'=>∃ v',e=.returned v'/\eE base w v (n+m) (xs++ys) v' w':=by
 have t3:=underlying3;have t22:=underlying27;have u3:=run_underlying underlying3;have Ve:=run_underlying underlying27;have OK:¬ ((m:Int)=0):=by omega
 obtain ⟨i,hi,hz,gq,F1⟩:=gI;obtain ⟨v',w',iS,lT,_,hc⟩:=mL (P:=prog) (ty:=27) w underlying27 underlying27 (.inr ⟨_,rfl⟩) hi hz gq (by rfl) hs (wE hu h1) (by simp only[maxLen];omega) (by rw[F1];omega) mf;rcases hu.2 with ⟨_,h0⟩|⟨vb,vc,El,rfl,_⟩
 ·omega
 rcases hs.2 with ⟨rfl,rfl⟩|⟨b,c,cur,rfl,Cl,hg,Fm,AL,Ag,yZ⟩
 ·go_enter func107,ntmps107
  go_wp2_with (at_builtin;refine Lib.wpList_append_run _ rfl _ _ _ _ rfl _ _ rfl rfl _ _ iS ?_)
  go_ret;exact ⟨_,rfl,lT,hc⟩
 ·go_enter func107,ntmps107
  go_wp2_with (at_builtin;refine Lib.wpList_append_run _ rfl _ _ _ _ rfl _ _ rfl rfl _ _ iS ?_)
  all_goals (go_ret;exact ⟨_,rfl,lT,hc⟩)
theorem kR {w:uC} {base b n c:Nat} {xs:O uB} (hs:w.ownsRow base 61 12 (.slice (some ⟨b,0,none⟩) n c) n xs):base<=b/\n<=c/\c<=maxLen/\∃ cur:uD uB,w.heap[b]?=some (.cells cur 61 (0,0))/\cur.size=c*12/\cur.toList.take (n*12)=xs:=by
 rcases hs.2 with ⟨h,_⟩|⟨b',c',cur,h,Cl,hg,Fm,AL,Ag,yZ⟩
 ·cases h
 ·cases h;exact ⟨Cl,Fm,AL,cur,hg,Ag,yZ⟩
theorem Iy (w:uC) {b vb m vc o lb cb cs:Nat} {cur El:uD uB} (fK:vb≠b) (hg:w.heap[b]?=some (.cells cur 61 (0,0))) (RB:w.heap[vb]?=some (.cells El 61 (0,0))) (hk:cur.size≠0) :
  (callFunc 159 #[.slice (some ⟨vb,0,none⟩) m vc,.slice (some ⟨b,o,none⟩) lb cb]).run prog w=.ok (.value (.bool false)) w:=by
 obtain ⟨i,hi,hz,gq,F1⟩:=gI;rw[run_callFunc_extern func159 (by kernel_rfl) (by kernel_rfl) (by kernel_rfl) (e:=Extern.SlicesOverlaps.overlaps #[27,27] #[4]) (by kernel_rfl),
  Lib.run_overlaps_apart w 27 4 61 underlying27 12 (λw'=>by simp [sizeOf,typeInfo,hi,gq]) ⟨vb,0,none⟩ ⟨b,o,none⟩ m vc lb cb fK 61 61 El.size cur.size (by simp [World.shape?,RB]) (by simp [World.shape?,hg]) hk (by simp [World.frozen?,RB]) (by simp [World.frozen?,RB])]
 rfl
theorem Ft (w:uC) {base b n c i vb m vc:Nat} {xs ys:O uB} (hs:w.ownsRow base 61 12 (.slice (some ⟨b,0,none⟩) n c) n xs) (hu:w.ownsRow base 61 12 (.slice (some ⟨vb,0,none⟩) m vc) m ys) (fK:vb≠b) (hi:i<n) (hm:0<m) (hb:n+m<=1000000000) (vW:n+m<=c)
  (Fp:∀ x∈xs,x.oneCell'=true) (h1:∀ y∈ys,y.oneCell'=true) :
  Calls prog 107 #[.slice (some ⟨b,0,none⟩) n c,.int .i64 i,.slice (some ⟨vb,0,none⟩) m vc] w λe w'=>∃ v',e=.returned v'/\eE base w (.slice (some ⟨b,0,none⟩) n c) (n+m) (xs.take (i*12)++ys++xs.drop (i*12)) v' w':=by
 have t3:=underlying3;have t22:=underlying27;have u3:=run_underlying underlying3;have Ve:=run_underlying underlying27;obtain ⟨Cl,Fm,AL,cur,hg,Ag,yZ⟩:=kR hs;obtain ⟨_,hvc,_,El,RB,Zy,Zz⟩:=kR hu;obtain ⟨inf,mQ,hz,gq,F1⟩:=gI;simp only[maxLen] at AL;have z32:∀ w,(Go.sizeOf 61).run prog w=.ok 12 w:=λw'=>by simp [sizeOf,typeInfo,mQ,gq]
 have OK:¬ ((m:Int)=0):=by omega
 have hz2:¬ ((i:Int)=(n:Int)):=by omega
 have mixed:=mU;have hw1:IntKind.i64.wrap ((i:Int)+(m:Int))=(i:Int)+(m:Int):=by rw[IntKind.wrap_i64];omega
 have Gq:(0:Int)<=(i:Int)+(m:Int):=by omega
 have ET:i<=n:=by omega
 have htn:((i:Int)+(m:Int)).toNat=i+m:=by omega
 have Gr:¬ (c=i+m):=by omega
 have F2:(i:Int)<=(n:Int)+(m:Int):=by omega
 have VX:¬ (c=i):=by omega
 have Mu:cur.size≠0:=by rw[Ag];omega
 have xG:=hs.1;have w9:=hu.1;have hov:∀ o lb cb,(callFunc 159 #[.slice (some ⟨vb,0,none⟩) m vc,.slice (some ⟨b,o,none⟩) lb cb]).run prog w=.ok (.value (.bool false)) w:=λo lb cb=>Iy (cs:=0) w fK hg RB Mu
 -- the first copy
 have CT:∀ j x,xs[j]?=some x->w.cell? ⟨b,j,none⟩=some x:=λj x hj=>by have:=hs.cells (g:=b) rfl j x hj;rwa [Addr.add_lit,zbu] at this
 have O3:∀ j v,(xs.drop (i*12))[j]?=some v->w.cell? (Addr.add ⟨b,i*12,none⟩ j)=some v:=λj v hj=>by
  rw[zbd] at hj;rw[Addr.add_lit];exact CT _ _ hj
 have VI:Nat.min (n+m-i) (n+m-(i+m))=n-i:=sO (by omega);have ZA:Nat.min m (n+m-i)=m:=sO (by omega);have zo:(xs.drop (i*12)).length=Nat.min (n+m-i) (n+m-(i+m))*12:=by rw[zbh,xG,VI];omega
 have Iz:∀ (W:uC),W.heap=w.heap->∀ ty dc sc,(Builtin.copy_ #[27,27] ty #[.slice (some ⟨b,(i+m)*12,none⟩) (n+m-(i+m)) dc,.slice (some ⟨b,i*12,none⟩) (n+m-i) sc]).run prog W=.ok (goInt (Nat.min (n+m-i) (n+m-(i+m)))) (W.setRow b (laid cur.toList ((i+m)*12) (xs.drop (i*12))).toArray):=λW hW ty dc sc =>
  pf W underlying27 mQ gq (by rw[hW];exact hg) zo (λj v hj=>by rw[World.cell?_of_block (w:=w) (by rw[hW])];exact O3 j v hj) (λv hv=>Fp v (zdd hv)) (by rw[zo,Ag,VI];omega)
 generalize AN:laid cur.toList ((i+m)*12) (xs.drop (i*12))=L1 at Iz;have s7:cur.toList.length=c*12:=by simpa using Ag
 have qm:(i+m)*12+(xs.drop (i*12)).length<=cur.toList.length:=by rw[zbh,xG,s7];omega
 have E8:L1.length=cur.toList.length:=by rw[←AN];exact jW qm
 have DL:∀ j v,ys[j]?=some v->w.cell? (Addr.add ⟨vb,0,none⟩ j)=some v:=λj v hj=>hu.cells (g:=vb) rfl j v hj
 have Mv:∀ (W:uC),W.heap[b]?=some (.cells L1.toArray 61 (0,0))->(∀ x:Addr,x.block≠b->W.cell? x=w.cell? x)->∀ ty dc,(Builtin.copy_ #[27,27] ty #[.slice (some ⟨b,i*12,none⟩) (n+m-i) dc,.slice (some ⟨vb,0,none⟩) m vc]).run prog W=.ok (goInt (Nat.min m (n+m-i))) (W.setRow b (laid L1 (i*12) ys).toArray):=λW Ts Tt ty dc =>
  pf W underlying27 mQ gq Ts (by rw[w9,ZA]) (λj v hj=>by rw[Tt _ (by rw[Addr.add_lit];exact fK)];exact DL j v hj) h1 (by simp only[zbx];omega)
 have Oa:((w.drew).setRow b L1.toArray).heap[b]?=some (.cells L1.toArray 61 (0,0)):=setRow_heap w.drew b cur _ 61 (0,0) hg;have vO:∀ x:Addr,x.block≠b->((w.drew).setRow b L1.toArray).cell? x=w.cell? x:=λx hx=>World.cell?_of_block (w:=w) (setRow_other w.drew b x.block _ hx)
 have qS:eE base w (.slice (some ⟨b,0,none⟩) n c) (n+m) (xs.take (i*12)++ys++xs.drop (i*12)) (.slice (some ⟨b,0,none⟩) (n+m) c) (((w.drew).setRow b L1.toArray).setRow b (laid L1 (i*12) ys).toArray):=by
  have CU:i*12+ys.length<=L1.length:=by rw[w9,E8,s7];omega
  refine ⟨⟨by simp only[zah,zbb,zbh];omega,.inr ⟨b,c,_,rfl,Cl,setRow_heap _ b _ _ 61 (0,0) Oa,vW,by simp only[maxLen];omega,by rw[zbx,jW CU,E8,s7],?_⟩⟩,
   .inl ⟨rfl,by simp,⟨rfl,rfl,rfl,by simp,λk hk KE=>?_⟩⟩⟩
  ·rw[zdi,kN CU (by rw[w9];omega),←AN];have e1:(laid cur.toList ((i+m)*12) (xs.drop (i*12))).take (i*12)=xs.take (i*12):=by
    apply zck;intro j;rw[zam,zam,zC qm];by_cases h:j<i*12
    ·rw[zab h,zab h,zaa (by omega),←yZ,zam,zab (by omega)]
    ·rw[zaa h,zaa h]
   rw[e1];congr 1;rw[kN qm (by rw[zbh,xG];omega),w9];apply zck;intro j;rw[zbd];have cH:(List.take ((i+m)*12) cur.toList).length=(i+m)*12:=by rw[zbb,s7];omega
   by_cases h:j<(n-i)*12
   ·rw[zap (by rw[zah,cH,zbh,xG];omega),zax (by rw[cH];omega),cH];congr 1;omega
   ·rw[zbq (by simp only[zah,zbh,zbb,s7,xG];omega),zbq (by rw[zbh,xG];omega)]
  ·rw[setRow_other _ b k _ (λe=>KE (by rw[e];rfl)),setRow_other _ b k _ (λe=>KE (by rw[e];rfl))];rfl
 have Tu:=Iz w.drew rfl;have Tv:=Mv _ Oa vO;go_enter func107,ntmps107
 go_wp2_with (simp only[hov])
 go_region_law_o (refine oq rfl _ _ 27 27 rfl _ _ (by simp [Act.eval,Act.put]) (by simp [Act.eval,Act.put]) (Tu _ _ _) ?_)
 go_wp2_with (at_builtin;refine lE _ rfl _ _ 27 27 rfl _ _ rfl rfl (Tv _ _) ?_)
 go_ret;exact ⟨_,rfl,qS⟩
theorem G9 (w:uC) {base b n c i vb m vc:Nat} {xs ys:O uB} (hs:w.ownsRow base 61 12 (.slice (some ⟨b,0,none⟩) n c) n xs) (hu:w.ownsRow base 61 12 (.slice (some ⟨vb,0,none⟩) m vc) m ys) (hi:i<n) (hm:0<m) (hb:n+m<=1000000000) (vW:c<n+m) (mf:base<=w.heap.size)
  (Fp:∀ x∈xs,x.oneCell'=true) (h1:∀ y∈ys,y.oneCell'=true) :
  Calls prog 107 #[.slice (some ⟨b,0,none⟩) n c,.int .i64 i,.slice (some ⟨vb,0,none⟩) m vc] w λe w'=>∃ v',e=.returned v'/\eE base w (.slice (some ⟨b,0,none⟩) n c) (n+m) (xs.take (i*12)++ys++xs.drop (i*12)) v' w':=by
 have t3:=underlying3;have t22:=underlying27;have u3:=run_underlying underlying3;have Ve:=run_underlying underlying27;obtain ⟨Cl,Fm,AL,cur,hg,Ag,yZ⟩:=kR hs;obtain ⟨_,hvc,_,El,RB,Zy,Zz⟩:=kR hu;obtain ⟨inf,mQ,hz,gq,F1⟩:=gI;simp only[maxLen] at AL;have mixed:=mU;have OK:¬ ((m:Int)=0):=by omega
 have hz2:¬ ((i:Int)=(n:Int)):=by omega
 have wF:(c:Int)<(n:Int)+(m:Int):=by omega
 have hbw:b<w.heap.size:=(hs.lt b rfl).2;have hvw:vb<w.heap.size:=(hu.lt vb rfl).2;have hkk:(n:Int)+(m:Int) - (i:Int)=((n+m-i:Nat):Int):=by omega
 have ZB:i+(n+m-i)=n+m:=by omega
 have xG:=hs.1;have w9:=hu.1;have CT:∀ j x,xs[j]?=some x->w.cell? ⟨b,j,none⟩=some x:=λj x hj=>by have:=hs.cells (g:=b) rfl j x hj;rwa [Addr.add_lit,zbu] at this
 have hold:(Builtin.firstCells inf.size i (.slice (some ⟨b,0,none⟩) i c)).run prog w.drew=.ok (xs.take (i*12)).toArray w.drew:=by
  rw[gq];refine run_firstCells_some w.drew 12 i ⟨b,0,none⟩ i c (xs.take (i*12)) (by rw[zbb];omega) (λj v hj=>?_);rw[Addr.add_lit,zbu];rw[zam] at hj;split at hj
  ·exact CT j v hj
  ·cases hj
 generalize hzv:(Value.agg _)=zv at hz;have EO:zv.cells.size=12:=by rw[←hzv];rfl
 have ZC:∀ ty,(Builtin.append_ #[27,3] ty #[.slice (some ⟨b,0,none⟩) i c,.int .i64 ((n:Int)+(m:Int) - (i:Int))]).run prog w =
   .ok (.slice (some ⟨w.heap.size,0,none⟩) (n+m) (grownCap w (n+m) c 61)) (w.drew.alloc (.cells ((xs.take (i*12)).toArray++Builtin.zeroCells zv.cells (n+m-i)++Builtin.zeroCells zv.cells (grownCap w (n+m) c 61-(n+m))) 61)):=λty=>by
  have h:=Lib.run_append_grow_zeros w 27 3 ty 61 inf zv .i64 .i64 underlying27 underlying3 mQ hz (some ⟨b,0,none⟩) i c (xs.take (i*12)) hold (n+m-i) (by omega) (by omega) (by omega) (by omega) (by rw[F1];omega) (by rw[ZB];exact growslice_fits vW (by rw[F1];omega));rw[ZB] at h;rw[hkk];exact h
 have hGn:n+m<=grownCap w (n+m) c 61:=grownCap_ge w _ _ _;have Tw:grownCap w (n+m) c 61<=maxLen:=grownCap_le_maxLen w (n+m) c 61 (by unfold maxLen;omega);generalize grownCap w (n+m) c 61=G at ZC hGn Tw;simp only[maxLen] at Tw;generalize hROW:(xs.take (i*12)).toArray++Builtin.zeroCells zv.cells (n+m-i)++Builtin.zeroCells zv.cells (G-(n+m))=wG at ZC;have hRl:wG.size=G*12:=by
  rw[←hROW];simp only[zfr,zbx,zbb,size_zeroCells,EO,xG];omega
 have hRt:wG.toList.take (i*12)=xs.take (i*12):=by
  rw[←hROW];simp only[zgg,zar];rw[zee (by rw[zbb];omega),zbz (by rw[zbb];omega)]
 have ZD:wG.toList.length=G*12:=by simpa using hRl
 have hmA:Nat.min m (n+m-i)=m:=sO (by omega);have hmB:Nat.min (n-i) (n+m-(i+m))=n-i:=sO (by omega);have zo:(xs.drop (i*12)).length=(n-i)*12:=by rw[zbh,xG];omega
 have Mw:i*12+ys.length<=wG.toList.length:=by rw[w9,ZD];omega
 have Tx:∀ (W:uC),W.heap[w.heap.size]?=some (.cells wG 61 (0,0))->(∀ x:Addr,x.block<w.heap.size->W.cell? x=w.cell? x)->∀ ty dc,(Builtin.copy_ #[27,27] ty #[.slice (some ⟨w.heap.size,i*12,none⟩) (n+m-i) dc,.slice (some ⟨vb,0,none⟩) m vc]).run prog W=.ok (goInt (Nat.min m (n+m-i))) (W.setRow w.heap.size (laid wG.toList (i*12) ys).toArray):=λW Ts Tt ty dc =>
  pf W underlying27 mQ gq Ts (by rw[w9,hmA]) (λj v hj=>by rw[Tt _ (by rw[Addr.add_lit];exact hvw)];exact hu.cells (g:=vb) rfl j v hj) h1 (by rw[w9,hRl];omega)
 generalize AN:laid wG.toList (i*12) ys=L1 at Tx;have E8:L1.length=wG.toList.length:=by rw[←AN];exact jW Mw
 have Mx:(i+m)*12+(xs.drop (i*12)).length<=L1.length:=by rw[zo,E8,ZD];omega
 have Ty:∀ (W:uC),W.heap[w.heap.size]?=some (.cells L1.toArray 61 (0,0))->(∀ x:Addr,x.block<w.heap.size->W.cell? x=w.cell? x)->∀ ty dc sc,(Builtin.copy_ #[27,27] ty #[.slice (some ⟨w.heap.size,(i+m)*12,none⟩) (n+m-(i+m)) dc,.slice (some ⟨b,i*12,none⟩) (n-i) sc]).run prog W=.ok (goInt (Nat.min (n-i) (n+m-(i+m)))) (W.setRow w.heap.size (laid L1 ((i+m)*12) (xs.drop (i*12))).toArray):=λW Ts Tt ty dc sc =>
  pf W underlying27 mQ gq Ts (by rw[zo,hmB]) (λj v hj=>by
   rw[Tt _ (by rw[Addr.add_lit];exact hbw),Addr.add_lit];rw[zbd] at hj;exact CT _ _ hj) (λv hv=>Fp v (zdd hv)) (by simp only[zbx];omega)
 generalize CF:laid L1 ((i+m)*12) (xs.drop (i*12))=L2 at Ty;have Sf:L2.length=L1.length:=by rw[←CF];exact jW Mx
 have CV:∀ W:uC,W.heap=w.heap.push (.cells wG 61 (0,0))->W.heap[w.heap.size]?=some (.cells wG 61 (0,0)):=λW hW=>by rw[hW];simp
 have ZE:∀ W:uC,W.heap=w.heap.push (.cells wG 61 (0,0))->∀ x:Addr,x.block<w.heap.size->W.cell? x=w.cell? x:=λW hW x hx=>World.cell?_of_block (w:=w) (by rw[hW,zds hx];simp [hx]);have hB0:∀ W:uC,W.heap=w.heap.push (.cells wG 61 (0,0))->(W.setRow w.heap.size L1.toArray).heap[w.heap.size]?=some (.cells L1.toArray 61 (0,0)):=λW hW=>setRow_heap W _ wG _ 61 (0,0) (CV W hW)
 have U8:∀ W:uC,W.heap=w.heap.push (.cells wG 61 (0,0))->∀ x:Addr,x.block<w.heap.size->(W.setRow w.heap.size L1.toArray).cell? x=w.cell? x:=λW hW x hx=>(World.cell?_of_block (w:=W) (setRow_other W _ x.block _ (by omega))).trans (ZE W hW x hx)
 have qS:∀ W W2:uC,W.heap=w.heap.push (.cells wG 61 (0,0))->W.os=w.os->W.tape=w.tape->W.output=w.output->W2.heap=(W.setRow w.heap.size L1.toArray).heap->W2.os=w.os->W2.tape=w.tape->W2.output=w.output ->
   eE base w (.slice (some ⟨b,0,none⟩) n c) (n+m) (xs.take (i*12)++ys++xs.drop (i*12)) (.slice (some ⟨w.heap.size,0,none⟩) (n+m) G) (W2.setRow w.heap.size L2.toArray):=by
  intro W W2 hW ho ht hou ZF QY DM ZG;have ZH:W2.heap[w.heap.size]?=some (.cells L1.toArray 61 (0,0)):=by rw[ZF];exact hB0 W hW
  refine ⟨⟨by simp only[zah,zbb,zbh];omega,.inr ⟨w.heap.size,G,_,rfl,mf,setRow_heap _ _ _ _ 61 (0,0) ZH,hGn,by simp only[maxLen];omega,by rw[zbx,Sf,E8,ZD],?_⟩⟩,
   .inr ⟨rfl,⟨QY,DM,ZG,by simp [ZF,hW],λk hk=>?_⟩⟩⟩
  ·have e2:(L1.take ((n+m)*12)).drop ((i+m)*12+(xs.drop (i*12)).length)=[]:=zcp (by rw[zbb,zo];omega);rw[zdi,←CF,kN Mx (by rw[zo];omega),e2,←AN];have e1:(laid wG.toList (i*12) ys).take ((i+m)*12)=xs.take (i*12)++ys:=by
    rw[kN Mw (by rw[w9];omega),hRt,w9,zcp (by rw[zbb];omega),zbp]
   rw[e1,zbp]
  ·rw[setRow_other _ _ k _ (by omega),ZF,setRow_other _ _ k _ (by omega),hW,zds hk];simp [hk]
 clear hkk ZB hold hROW;have hGi:¬ (G=i):=by omega
 have hGim:¬ (G=i+m):=by omega
 have rR:¬ (c=i):=by omega
 have hw1:IntKind.i64.wrap ((i:Int)+(m:Int))=(i:Int)+(m:Int):=by rw[IntKind.wrap_i64];omega
 have Gq:(0:Int)<=(i:Int)+(m:Int):=by omega
 have ET:i<=n:=by omega
 have htn:((i:Int)+(m:Int)).toNat=i+m:=by omega
 have F2:(i:Int)<=(n:Int):=by omega
 have Tz:=Tx (w.alloc (.cells wG 61)).drew (CV _ rfl) (ZE _ rfl);have TA:=Ty ((w.alloc (.cells wG 61)).drew.setRow w.heap.size L1.toArray).drew (hB0 _ rfl) (U8 (w.alloc (.cells wG 61)).drew rfl);have TB:=qS (w.alloc (.cells wG 61)).drew ((w.alloc (.cells wG 61)).drew.setRow w.heap.size L1.toArray).drew rfl rfl rfl rfl rfl rfl rfl rfl;go_enter func107,ntmps107
 go_wp2_with (first
  | (at_builtin;refine Lib.wpList_append_run _ rfl _ _ _ _ rfl _ _ rfl rfl _ _ (ZC _) ?_)
  | (at_builtin;refine lE _ rfl _ _ 27 27 rfl _ _ rfl rfl (Tz _ _) ?_))
 go_region_law_o (refine oq rfl _ _ 27 27 rfl _ _ (by simp [Act.eval,Act.put]) (by simp [Act.eval,Act.put]) (TA _ _ _) ?_)
 go_wp2
 go_ret;exact ⟨_,rfl,TB⟩
theorem IA (w:uC) {base m:Nat} {A:J Addr} {u:uB} {ys:O uB} (hu:w.ownsRow base 61 12 u m ys) (hm:0<m) (hb:m<=1000000000) (mf:base<=w.heap.size) (h1:∀ y∈ys,y.oneCell'=true) :
  Calls prog 107 #[.slice A 0 0,.int .i64 0,u] w λe w'=>∃ v',e=.returned v'/\eE base w (.slice none 0 0) m ys v' w':=by
 have t3:=underlying3;have t22:=underlying27;have u3:=run_underlying underlying3;have Ve:=run_underlying underlying27;have OK:¬ ((m:Int)=0):=by omega
 obtain ⟨i,hi,hz,gq,F1⟩:=gI;have hs:=World.ownsRow_nil w base 61 12;obtain ⟨v',w',iS,lT,_,hc⟩:=mL (P:=prog) (ty:=27) w underlying27 underlying27 (.inr ⟨_,rfl⟩) hi hz gq (by rfl) hs (wE hu h1) (by simp only[maxLen];omega) (by rw[F1];omega) mf;rw[zbu,zbt] at lT;have My:=((xL (ty:=27) underlying27 underlying27 (.inr ⟨_,rfl⟩) hi hz gq (wE hu h1) (by omega) (by rw[F1];omega) A).2 (by omega)).trans iS;rcases hu.2 with ⟨_,h0⟩|⟨vb,vc,El,rfl,_⟩
 ·omega
 cases A with
 | none =>
  go_enter func107,ntmps107
  go_wp2_with (at_builtin;refine Lib.wpList_append_run _ rfl _ _ _ _ rfl _ _ rfl rfl _ _ My ?_)
  all_goals (go_ret;exact ⟨_,rfl,lT,hc⟩)
 | some A =>
  obtain ⟨ab,ao,asp⟩:=A;go_enter func107,ntmps107
  go_wp2_with (at_builtin;refine Lib.wpList_append_run _ rfl _ _ _ _ rfl _ _ rfl rfl _ _ My ?_)
  all_goals (go_ret;exact ⟨_,rfl,lT,hc⟩)
theorem Fu (w:uC) {base n m i:Nat} {v u:uB} {xs ys:O uB} (hs:w.ownsRow base 61 12 v n xs) (hu:w.ownsRow base 61 12 u m ys) (fK:∀ b,v.ownBlock=some b->u.ownBlock≠some b) (hi:i<=n) (hm:0<m) (hb:n+m<=1000000000) (mf:base<=w.heap.size)
  (Fp:∀ x∈xs,x.oneCell'=true) (h1:∀ y∈ys,y.oneCell'=true) :
  Calls prog 107 #[v,.int .i64 i,u] w λe w'=>∃ v',e=.returned v'/\eE base w v (n+m) (xs.take (i*12)++ys++xs.drop (i*12)) v' w':=by
 by_cases ET:i=n
 ·subst ET;have xG:=hs.1;rw[zbz (by omega),zcp (by omega),zbp];exact Ix w hs hu hm hb mf h1
 ·obtain ⟨b,c,rfl⟩:=(jV hs).2 (by omega);obtain ⟨vb,vc,rfl⟩:=(jV hu).2 (by omega);by_cases hr:n+m<=c
  ·exact Ft w hs hu (λe=>fK b rfl (by rw[e];rfl)) (by omega) hm hb hr Fp h1
  ·exact G9 w hs hu (by omega) hm hb (by omega) mf Fp h1
theorem Em {l l' r:O aa} {n0 n1:Nat} {i:Int} (H:re i l l'=some r) :
  aN prog 107 [.vc 0 n0,.d (cI i),.vc 1 n1] ⟨[],[⟨61,12,n0,some (l.map aa.row)⟩,⟨61,12,n1,some (l'.map aa.row)⟩]⟩
   (QE (.vc 2 r.length) ⟨[],[⟨61,12,([]:O aa).length,none⟩,⟨61,12,n1,some (l'.map aa.row)⟩,⟨61,12,r.length,some (r.map aa.row)⟩]⟩):=by
 obtain ⟨hk,H⟩:=ar H;cases H;intro g w base vs hinv ha;obtain ⟨x,y,z,rfl,e1,e2,e3⟩:=Tc rfl ha;obtain ⟨k0,k1,k2,k3⟩:=hk;have N9:y=.int .i64 i:=e2.bO;subst N9;obtain ⟨xs,s1,s2,s3⟩:=hinv.own 0 _ _ _ _ rfl;obtain ⟨ys,u1,u2,u3⟩:=hinv.own 1 _ _ _ _ rfl;have N6:n0=l.length:=by have:=s3.len;simpa using this.symm
 have hn1:n1=l'.length:=by have:=u3.len;simpa using this.symm
 have hz:z=g.tk 1:=by
  rcases ub hinv rfl e3 with h|⟨_,h,_⟩
  ·exact h
  ·have:l'=[]:=by simpa using h
   rw[this] at k2;simp at k2
 subst hz;obtain ⟨j,rfl⟩:∃ j:Nat,i=(j:Int):=⟨i.toNat,by omega⟩;have s6:=s3.YN s1.1 u3 u1.1 (i:=j) (j:=j) (zaq _) (by omega);have kS:(l.map aa.row).take j++l'.map aa.row++(l.map aa.row).drop j=(l.take j++l'++l.drop j).map aa.row:=by simp [List.map_take,List.map_drop]
 rw[kS,show j+n1+(n0-j)=n0+n1 from by omega] at s6;have hlen:(l.take j++l'++l.drop j).length=n0+n1:=by simp;omega
 have Fp:=s3.one s1.1;have h1y:=u3.one u1.1;have fin:∀ v0:uB,(v0.ownBlock=(g.tk 0).ownBlock∨v0.ownBlock=none/\0<n0+n1)->∀ e w',(∃ v',e=.returned v'/\eE base w v0 (n0+n1) (xs.take (j*12)++ys++xs.drop (j*12)) v' w') ->
   pD ⟨g,w,⟨[],[⟨61,12,n0,some (l.map aa.row)⟩,⟨61,12,n1,some (l'.map aa.row)⟩]⟩,base⟩ (QE (.vc 2 (l.take (j:Int).toNat++l'++l.drop (j:Int).toNat).length) ⟨[],[⟨61,12,([]:O aa).length,none⟩,⟨61,12,n1,some (l'.map aa.row)⟩,⟨61,12,(l.take (j:Int).toNat++l'++l.drop (j:Int).toNat).length,some ((l.take (j:Int).toNat++l'++l.drop (j:Int).toNat).map aa.row)⟩]⟩) e w':=by
  rintro v0 Ox e w' ⟨v',rfl,ho,hc⟩;rw[zcr,hlen];refine xY hinv (tk:=0) rfl rfl ho ?_ s6;rcases hc with ⟨c1,c2,c3⟩|hc
  ·rcases Ox with Ox|⟨Ox,hp⟩
   ·rw[Ox] at c1 c3;exact .inl ⟨c1,c2,c3⟩
   ·rw[Ox] at c1;obtain ⟨b,c,BN⟩:=(jV ho).2 (by omega);rw[BN] at c1;cases c1
  ·exact .inr hc
 rcases ub hinv rfl e1 with hx|⟨h0,YP,A,hx⟩
 ·subst hx;refine (Fu w s1 u1 (λb h1 h2=>hinv.pJ 0 1 _ _ b (by decide) rfl rfl h1 h2) (i:=j) (by omega) (by omega) (by omega) hinv.base Fp h1y).mono ?_;exact fin _ (.inl rfl)
 ·subst hx;have hj:j=0:=by omega
  subst hj;have Vt:xs=[]:=zba (by rw[s1.1,h0,zfz]);subst Vt;refine (IA w (A:=A) u1 (by omega) (by omega) hinv.base h1y).mono λe w' hh=>fin (.slice none 0 0) (.inr ⟨rfl,by omega⟩) e w' ?_
  rw[h0,zbu];simpa using hh
theorem IB (w:uC) {base b n c i m uc:Nat} {A:J Addr} {xs ys:O uB} (hs:w.ownsRow base 61 12 (.slice (some ⟨b,0,none⟩) n c) n xs) (hu:Go.Abs.Src prog w 12 (.slice A m uc) m ys) (hi:i<n) (hm:m<=n-i) (hb:n<=1000000000) :
  Calls prog 162 #[.slice (some ⟨b,0,none⟩) n c,.int .i64 i,.int .i64 n,.slice A m uc] w λe w'=>∃ v',e=.returned v'/\eE base w (.slice (some ⟨b,0,none⟩) n c) (i+m) (xs.take (i*12)++ys) v' w':=by
 have t3:=underlying3;have t22:=underlying27;have u3:=run_underlying underlying3;have Ve:=run_underlying underlying27;obtain ⟨Cl,Fm,AL,cur,hg,Ag,yZ⟩:=kR hs;obtain ⟨inf,mQ,hz,gq,F1⟩:=gI;simp only[maxLen] at AL;generalize hzv:(Value.agg _)=zv at hz;have EO:zv.cells.size=12:=by rw[←hzv];rfl
 have OK:∀ v∈(Builtin.zeroCells zv.cells (n-(i+m))).toList,v.oneCell'=true:=wx (by rw[EO,←hzv];decide);have hz2:¬ ((i:Int)=(n:Int)):=by omega
 have xG:=hs.1;have w9:=hu.size;have s7:cur.toList.length=c*12:=by simpa using Ag
 have qm:i*12+ys.length<=cur.toList.length:=by rw[w9,s7];omega
 have iS:∀ ty,(Builtin.append_ #[27,27] ty #[.slice (some ⟨b,0,none⟩) i c,.slice A m uc]).run prog w=.ok (.slice (some ⟨b,0,none⟩) (i+m) c) (w.setRow b (laid cur.toList (i*12) ys).toArray):=λty =>
  E2 w underlying27 mQ gq hg (by omega) (hu.cells w rfl) hu.one (by rw[←zdb];exact qm)
 generalize AN:laid cur.toList (i*12) ys=L1 at iS;have E8:L1.length=cur.toList.length:=by rw[←AN];exact jW qm
 have Oa:(w.setRow b L1.toArray).heap[b]?=some (.cells L1.toArray 61 (0,0)):=setRow_heap w b cur _ 61 (0,0) hg;have Vf:L1.take ((i+m)*12)=xs.take (i*12)++ys:=by
  have e1:(cur.toList.take ((i+m)*12)).drop (i*12+ys.length)=[]:=zcp (by rw[zbb,w9];omega);rw[←AN,kN qm (by rw[w9];omega),e1,zbp,←yZ,zfp,show min (i*12) (n*12)=i*12 from by omega]
 have hlen:(xs.take (i*12)++ys).length=(i+m)*12:=by simp only[zah,zbb];omega
 have ET:i<=n:=by omega
 have YS:(0:Int)<=(i:Int):=by omega
 have rR:¬ (c=i):=by omega
 by_cases VI:i+m=n
 ·have cT:¬ ((i:Int)+(m:Int)<(n:Int)):=by omega
  have hlt2:¬ (i+m<n):=by omega
  have hlt3:¬ (((i+m:Nat):Int)<(n:Int)):=by omega
  have qS:eE base w (.slice (some ⟨b,0,none⟩) n c) (i+m) (xs.take (i*12)++ys) (.slice (some ⟨b,0,none⟩) (i+m) c) (w.setRow b L1.toArray) :=
   ⟨⟨hlen,.inr ⟨b,c,_,rfl,Cl,Oa,by omega,by simp only[maxLen];omega,by rw[zbx,E8,s7],by rw[zdi,Vf]⟩⟩,.inl ⟨rfl,by simp,⟨rfl,rfl,rfl,by simp,λk hk KE=>setRow_other _ b k _ (λe=>KE (by rw[e];rfl))⟩⟩⟩
  rw[VI] at qS;go_enter func162,ntmps162
  go_wp2_with (at_builtin;refine Lib.wpList_append_run _ rfl _ _ _ _ rfl _ _ rfl rfl _ _ (iS _) ?_)
  all_goals (go_ret;exact ⟨_,rfl,qS⟩)
 ·have cT:(i:Int)+(m:Int)<(n:Int):=by omega
  have hlt2:i+m<n:=by omega
  have E9:(i+m)*12+(Builtin.zeroCells zv.cells (n-(i+m))).toList.length<=L1.length:=by rw[zdb,size_zeroCells,EO,E8,s7];omega
  have Fv:∀ ty dc,(Builtin.clear_ #[27] ty #[.slice (some ⟨b,(i+m)*12,none⟩) (n-(i+m)) dc]).run prog (w.setRow b L1.toArray)=.ok (.tuple #[]) ((w.setRow b L1.toArray).setRow b (laid L1 ((i+m)*12) (Builtin.zeroCells zv.cells (n-(i+m))).toList).toArray):=λty dc=>by
   have:=BV (P:=prog) (ty:=ty) (c:=dc) (w.setRow b L1.toArray) (o:=(i+m)*12) (n:=n-(i+m)) underlying27 mQ hz EO Oa (by omega) (by rw[zbx,E8,s7];omega) OK;exact this
  generalize CF:laid L1 ((i+m)*12) (Builtin.zeroCells zv.cells (n-(i+m))).toList=L2 at Fv;have Sf:L2.length=L1.length:=by rw[←CF];exact jW E9
  have Vg:L2.take ((i+m)*12)=xs.take (i*12)++ys:=by rw[←CF,BW E9 (zaq _),Vf]
  have hcim:¬ (c=i+m):=by omega
  have hle:i+m<=n:=by omega
  have qS:eE base w (.slice (some ⟨b,0,none⟩) n c) (i+m) (xs.take (i*12)++ys) (.slice (some ⟨b,0,none⟩) (i+m) c) ((w.setRow b L1.toArray).setRow b L2.toArray) :=
   ⟨⟨hlen,.inr ⟨b,c,_,rfl,Cl,setRow_heap _ b _ _ 61 (0,0) Oa,by omega,by simp only[maxLen];omega,by rw[zbx,Sf,E8,s7],by rw[zdi,Vg]⟩⟩,
    .inl ⟨rfl,by simp,⟨rfl,rfl,rfl,by simp,λk hk KE=>by rw[setRow_other _ b k _ (λe=>KE (by rw[e];rfl)),setRow_other _ b k _ (λe=>KE (by rw[e];rfl))]⟩⟩⟩
  go_enter func162,ntmps162
  go_wp2_with (first
   | (at_builtin;refine Lib.wpList_append_run _ rfl _ _ _ _ rfl _ _ rfl rfl _ _ (iS _) ?_)
   | (at_builtin;refine mi _ rfl _ 27 rfl _ rfl (Fv _ _) ?_))
  all_goals (go_ret;exact ⟨_,rfl,qS⟩)
theorem IC (w:uC) {base b n c i j m uc:Nat} {A:J Addr} {xs ys:O uB} (hs:w.ownsRow base 61 12 (.slice (some ⟨b,0,none⟩) n c) n xs) (hu:Go.Abs.Src prog w 12 (.slice A m uc) m ys) (hi:i<j) (hj:j<n) (hm:m<=j-i) (hb:n<=1000000000) (Fp:∀ x∈xs,x.oneCell'=true) :
  Calls prog 162 #[.slice (some ⟨b,0,none⟩) n c,.int .i64 i,.int .i64 j,.slice A m uc] w λe w'=>∃ v',e=.returned v'/\eE base w (.slice (some ⟨b,0,none⟩) n c) (i+m+(n-j)) (xs.take (i*12)++ys++xs.drop (j*12)) v' w':=by
 have t3:=underlying3;have t22:=underlying27;have u3:=run_underlying underlying3;have Ve:=run_underlying underlying27;obtain ⟨Cl,Fm,AL,cur,hg,Ag,yZ⟩:=kR hs;obtain ⟨inf,mQ,hz,gq,F1⟩:=gI;simp only[maxLen] at AL;have mixed:=mU;generalize hzv:(Value.agg _)=zv at hz;have EO:zv.cells.size=12:=by rw[←hzv];rfl
 have xG:=hs.1;have w9:=hu.size;have s7:cur.toList.length=c*12:=by simpa using Ag
 obtain ⟨T,hT⟩:∃ T,i+m+(n-j)=T:=⟨_,rfl⟩;have hTi:(i:Int)+(m:Int)+((n-j:Nat):Int)=(T:Int):=by omega
 have hTn:T<=n:=by omega
 have OK:∀ v∈(Builtin.zeroCells zv.cells (n-T)).toList,v.oneCell'=true:=wx (by rw[EO,←hzv];decide);have hne1:¬ ((i:Int)=(j:Int)):=by omega
 have hne2:¬ ((j:Int)=(n:Int)):=by omega
 have hw1:IntKind.i64.wrap ((i:Int)+(m:Int))=(i:Int)+(m:Int):=by rw[IntKind.wrap_i64];omega
 have hw2:IntKind.i64.wrap ((i:Int)+(m:Int)+((n-j:Nat):Int))=(T:Int):=by rw[IntKind.wrap_i64];omega
 have htc:¬ ((c:Int)<(T:Int)):=by omega
 have Gq:(0:Int)<=(i:Int)+(m:Int):=by omega
 have htn:((i:Int)+(m:Int)).toNat=i+m:=by omega
 have hle1:(i:Int)+(m:Int)<=(j:Int):=by omega
 have YQ:(i:Int)+(m:Int)<=(T:Int):=by omega
 have hTc:T<=c:=by omega
 have ET:i<=n:=by omega
 have hin2:i<=c:=by omega
 have hiT:i<=T:=by omega
 have hjn:j<=n:=by omega
 have PK:i<=j:=by omega
 have rR:¬ (c=i):=by omega
 have ZI:¬ (c=j):=by omega
 have hcim:¬ (c=i+m):=by omega
 -- the first copy
 have qm:i*12+ys.length<=cur.toList.length:=by rw[w9,s7];omega
 have Iz:∀ ty dc,(Builtin.copy_ #[27,27] ty #[.slice (some ⟨b,i*12,none⟩) (T-i) dc,.slice A m uc]).run prog w.drew=.ok (goInt m) (w.drew.setRow b (laid cur.toList (i*12) ys).toArray):=λty dc =>
  Rs w.drew underlying27 mQ gq hg (by omega) (hu.cells _ rfl) hu.one (by rw[←zdb];exact qm)
 generalize AN:laid cur.toList (i*12) ys=L1 at Iz;have E8:L1.length=cur.toList.length:=by rw[←AN];exact jW qm
 have Oa:(w.drew.setRow b L1.toArray).heap[b]?=some (.cells L1.toArray 61 (0,0)):=setRow_heap w.drew b cur _ 61 (0,0) hg
 -- the second one
 have zo:(xs.drop (j*12)).length=(n-j)*12:=by rw[zbh,xG];omega
 have fN:∀ k v,(xs.drop (j*12))[k]?=some v->(w.drew.setRow b L1.toArray).drew.cell? (Addr.add ⟨b,j*12,none⟩ k)=some v:=λk v hk=>by
  have hkl:=(zae.1 hk).1;rw[zbd] at hk;rw[Addr.add_lit];have:(w.drew.setRow b L1.toArray).drew.cell? ⟨b,j*12+k,none⟩=L1[j*12+k]?:=by
   have:=cell_of_row (w.drew.setRow b L1.toArray) b (j*12+k) L1.toArray 61 (0,0) Oa;simpa using this
  rw[this,←AN,zC qm,zaa (by rw[w9];omega),←hk,←yZ,zam,zab (by omega)]
 have hmnB:Nat.min (n-j) (T-(i+m))=n-j:=sO (by omega);have CU:(i+m)*12+(xs.drop (j*12)).length<=L1.length:=by rw[zo,E8,s7];omega
 have Mv:∀ ty dc sc,(Builtin.copy_ #[27,27] ty #[.slice (some ⟨b,(i+m)*12,none⟩) (T-(i+m)) dc,.slice (some ⟨b,j*12,none⟩) (n-j) sc]).run prog (w.drew.setRow b L1.toArray).drew=.ok (goInt (Nat.min (n-j) (T-(i+m)))) ((w.drew.setRow b L1.toArray).drew.setRow b (laid L1 ((i+m)*12) (xs.drop (j*12))).toArray):=λty dc sc =>
  pf (w.drew.setRow b L1.toArray).drew underlying27 mQ gq Oa (by rw[zo,hmnB]) fN (λv hv=>Fp v (zdd hv)) (by rw[←zdb];exact CU)
 generalize CF:laid L1 ((i+m)*12) (xs.drop (j*12))=L2 at Mv;have Sf:L2.length=L1.length:=by rw[←CF];exact jW CU
 have ZH:((w.drew.setRow b L1.toArray).drew.setRow b L2.toArray).heap[b]?=some (.cells L2.toArray 61 (0,0)):=setRow_heap (w.drew.setRow b L1.toArray).drew b _ _ 61 (0,0) Oa;have Vf:L1.take ((i+m)*12)=xs.take (i*12)++ys:=by
  have e1:(cur.toList.take ((i+m)*12)).drop (i*12+ys.length)=[]:=zcp (by rw[zbb,w9];omega);rw[←AN,kN qm (by rw[w9];omega),e1,zbp,←yZ,zfp,show min (i*12) (n*12)=i*12 from by omega]
 have Vg:L2.take (T*12)=xs.take (i*12)++ys++xs.drop (j*12):=by
  have e1:(L1.take (T*12)).drop ((i+m)*12+(xs.drop (j*12)).length)=[]:=zcp (by rw[zbb,zo];omega);rw[←CF,kN CU (by rw[zo];omega),e1,zbp,Vf]
 have hlen:(xs.take (i*12)++ys++xs.drop (j*12)).length=T*12:=by simp only[zah,zbb,zbh];omega
 rw[hT];have Pz:∀ k,k<w.heap.size->some k≠Value.ownBlock (.slice (some ⟨b,0,none⟩) n c)->((w.drew.setRow b L1.toArray).drew.setRow b L2.toArray).heap[k]?=w.heap[k]?:=λk hk KE=>by
  rw[setRow_other _ b k _ (λe=>KE (by rw[e];rfl))];show (w.drew.setRow b L1.toArray).heap[k]?=_;rw[setRow_other _ b k _ (λe=>KE (by rw[e];rfl))];rfl
 by_cases hTe:T=n
 ·have qS:eE base w (.slice (some ⟨b,0,none⟩) n c) T (xs.take (i*12)++ys++xs.drop (j*12)) (.slice (some ⟨b,0,none⟩) T c) ((w.drew.setRow b L1.toArray).drew.setRow b L2.toArray) :=
   ⟨⟨hlen,.inr ⟨b,c,_,rfl,Cl,ZH,hTc,by simp only[maxLen];omega,by rw[zbx,Sf,E8,s7],by rw[zdi,Vg]⟩⟩,.inl ⟨rfl,by simp,⟨rfl,rfl,rfl,by simp,Pz⟩⟩⟩
  have Fv:∀ (W:uC) (A:J Addr) ty dc,(Builtin.clear_ #[27] ty #[.slice A 0 dc]).run prog W=.ok (.tuple #[]) W:=λW A ty dc=>GR W underlying27
  have hz0:n-T=0:=by omega
  clear hTe;rw[zar] at qS ⊢;rcases Decidable.em (c=T) with hcT|hcT
  ·subst hcT;go_enter func162,ntmps162
   go_wp2
   go_region
   go_wp2_with (at_builtin;refine lE _ rfl _ _ 27 27 rfl _ _ rfl rfl (Iz _ _) ?_)
   go_region_law_o (refine oq rfl _ _ 27 27 rfl _ _ (by simp [Act.eval,Act.put]) (by simp [Act.eval,Act.put]) (Mv _ _ _) ?_)
   go_wp2_with (at_builtin;refine mi _ rfl _ 27 rfl _ rfl (Fv _ _ _ _) ?_)
   all_goals (go_ret;exact ⟨_,rfl,qS⟩)
  ·go_enter func162,ntmps162
   go_wp2
   go_region
   go_wp2_with (at_builtin;refine lE _ rfl _ _ 27 27 rfl _ _ rfl rfl (Iz _ _) ?_)
   go_region_law_o (refine oq rfl _ _ 27 27 rfl _ _ (by simp [Act.eval,Act.put]) (by simp [Act.eval,Act.put]) (Mv _ _ _) ?_)
   go_wp2_with (at_builtin;refine mi _ rfl _ 27 rfl _ rfl (Fv _ _ _ _) ?_)
   all_goals (go_ret;exact ⟨_,rfl,qS⟩)
 ·have E9:T*12+(Builtin.zeroCells zv.cells (n-T)).toList.length<=L2.length:=by rw[zdb,size_zeroCells,EO,Sf,E8,s7];omega
  have Fv:∀ ty dc,(Builtin.clear_ #[27] ty #[.slice (some ⟨b,T*12,none⟩) (n-T) dc]).run prog ((w.drew.setRow b L1.toArray).drew.setRow b L2.toArray)=.ok (.tuple #[]) (((w.drew.setRow b L1.toArray).drew.setRow b L2.toArray).setRow b (laid L2 (T*12) (Builtin.zeroCells zv.cells (n-T)).toList).toArray):=λty dc=>by
   have:=BV (P:=prog) (ty:=ty) (c:=dc) ((w.drew.setRow b L1.toArray).drew.setRow b L2.toArray) (o:=T*12) (n:=n-T) underlying27 mQ hz EO ZH (by omega) (by rw[zbx,Sf,E8,s7];omega) OK;exact this
  generalize hl3:laid L2 (T*12) (Builtin.zeroCells zv.cells (n-T)).toList=L3 at Fv;have hL3:L3.length=L2.length:=by rw[←hl3];exact jW E9
  have hT3:L3.take (T*12)=xs.take (i*12)++ys++xs.drop (j*12):=by rw[←hl3,BW E9 (zaq _),Vg]
  have hcT:¬ (c=T):=by omega
  have qS:eE base w (.slice (some ⟨b,0,none⟩) n c) T (xs.take (i*12)++ys++xs.drop (j*12)) (.slice (some ⟨b,0,none⟩) T c) (((w.drew.setRow b L1.toArray).drew.setRow b L2.toArray).setRow b L3.toArray) :=
   ⟨⟨hlen,.inr ⟨b,c,_,rfl,Cl,setRow_heap _ b _ _ 61 (0,0) ZH,hTc,by simp only[maxLen];omega,by rw[zbx,hL3,Sf,E8,s7],by rw[zdi,hT3]⟩⟩,.inl ⟨rfl,by simp,⟨rfl,rfl,rfl,by simp,λk hk KE=>by rw[setRow_other _ b k _ (λe=>KE (by rw[e];rfl))];exact Pz k hk KE⟩⟩⟩
  rw[zar] at qS ⊢;go_enter func162,ntmps162
  go_wp2
  go_region
  go_wp2_with (at_builtin;refine lE _ rfl _ _ 27 27 rfl _ _ rfl rfl (Iz _ _) ?_)
  go_region_law_o (refine oq rfl _ _ 27 27 rfl _ _ (by simp [Act.eval,Act.put]) (by simp [Act.eval,Act.put]) (Mv _ _ _) ?_)
  go_wp2_with (at_builtin;refine mi _ rfl _ 27 rfl _ rfl (Fv _ _) ?_)
  all_goals (go_ret;exact ⟨_,rfl,qS⟩)
theorem CW {l l' r:O aa} {n0:Nat} {i j:Int} (H:tO i j l' l=some r) :
  aN prog 162 [.vc 0 n0,.d (cI i),.d (cI j),.d (ag 12 aa.row l')] ⟨[],[⟨61,12,n0,some (l.map aa.row)⟩]⟩
   (QE (.vc 1 r.length) ⟨[],[⟨61,12,([]:O aa).length,none⟩,⟨61,12,r.length,some (r.map aa.row)⟩]⟩):=by
 obtain ⟨hk,H⟩:=ar H;cases H;intro g w base vs hinv ha;obtain ⟨x,y,z,u,rfl,e1,e2,e3,e4⟩:=args4 rfl ha;obtain ⟨k0,k1,k2,k3,k4⟩:=hk;have N9:y=.int .i64 i:=e2.bO;have e3':z=.int .i64 j:=e3.bO;subst N9;subst e3';obtain ⟨xs,s1,s2,s3⟩:=hinv.own 0 _ _ _ _ rfl;have N6:n0=l.length:=by have:=s3.len;simpa using this.symm
 have e4':dY g.lim w (.sl 12 (l'.map aa.row)) u:=by cases e4 with|d _ _ h=>exact h
 obtain ⟨ys,tL⟩:=uR (P:=prog) e4';obtain ⟨A,uc,hu⟩:=FQ e4';have wX:=tL.src;rw[zcz] at hu wX;subst hu;have hx:x=g.tk 0:=by
  rcases ub hinv rfl e1 with h|⟨_,h,_⟩
  ·exact h
  ·have:l=[]:=by simpa using h
   rw[this] at k2;simp at k2;omega
 subst hx;obtain ⟨i',rfl⟩:∃ q:Nat,i=(q:Int):=⟨i.toNat,by omega⟩;obtain ⟨j',rfl⟩:∃ q:Nat,j=(q:Int):=⟨j.toNat,by omega⟩;have hys:dF g.lim w 12 l'.length (l'.map aa.row) ys:=⟨by simp,tL.rows,λq c v hc hv=>tL.rep q v c hv hc⟩;have s6:=s3.YN s1.1 hys wX.size (i:=i') (j:=j') (by omega) (by omega);have kS:(l.map aa.row).take i'++l'.map aa.row++(l.map aa.row).drop j'=(l.take i'++l'++l.drop j').map aa.row:=by simp [List.map_take,List.map_drop]
 rw[kS] at s6;have hlen:(l.take i'++l'++l.drop j').length=i'+l'.length+(n0-j'):=by simp;omega
 obtain ⟨b,c,hv⟩:=(jV s1).2 (by omega);have Fp:=s3.one s1.1;have fin:∀ e w',(∃ v',e=.returned v'/\eE base w (g.tk 0) (i'+l'.length+(n0-j')) (xs.take (i'*12)++ys++xs.drop (j'*12)) v' w') ->
   pD ⟨g,w,⟨[],[⟨61,12,n0,some (l.map aa.row)⟩]⟩,base⟩ (QE (.vc 1 (l.take (i':Int).toNat++l'++l.drop (j':Int).toNat).length) ⟨[],[⟨61,12,([]:O aa).length,none⟩,⟨61,12,(l.take (i':Int).toNat++l'++l.drop (j':Int).toNat).length,some ((l.take (i':Int).toNat++l'++l.drop (j':Int).toNat).map aa.row)⟩]⟩) e w':=by
  rintro e w' ⟨v',rfl,ho,hc⟩;rw[zcr,zcr,hlen];exact xY hinv (tk:=0) rfl rfl ho hc s6
 refine Calls.mono ?_ fin;have VY:=s1;rw[hv] at VY ⊢;by_cases hjn:j'=n0
 ·subst hjn;have:=IB w VY wX (i:=i') (by omega) (by omega) (by omega);rw[Nat.sub_self,zdp,zcp (by rw[s1.1];exact zaq _),zbp];exact this
 ·exact IC w VY wX (by omega) (by omega) (by omega) (by omega) Fp
theorem pz {l r:O aa} (H:dv l=some r):aN prog 23 [.d (ag 12 aa.row l)] ⟨[],[]⟩ (QE (.vc 0 r.length) ⟨[],[⟨61,12,r.length,some (r.map aa.row)⟩]⟩):=by
 obtain ⟨hk,H⟩:=ar H;cases H;obtain ⟨i32,CX,KF,CY,KG⟩:=gI;refine aN.kT ?_;refine aN.enter func23 rfl ntmps23 rfl λS hS=>?_
 refine .F 8 rfl (.Ml underlying27 rfl rfl λb hb=>?_);refine .E 1 rfl (.cond rfl (λhc=>?_) (λhc=>?_))
 ·have hl:l=[]:=by simpa using hb hc
  subst hl;refine .E 4 rfl (.Re (i:=2) (e:=61) (sz:=12) rfl (.R func23 results23 rfl ?_));exact ⟨[],[0],rfl,rfl,rfl,rfl,rfl,rfl,rfl,rfl,.ak _⟩
 ·refine .F 3 rfl (.v (x:=.vc 0 ([]:O aa).length) (w6 aa.row underlying27 CX CY) rfl (.wv (st':=⟨[],[⟨61,12,([]:O aa).length,some (([]:O aa).map aa.row)⟩]⟩) rfl (.F 1 rfl ?_)));refine .v (x:=.vc 0 (([]:O aa)++l).length) (gr (l:=[]) (l':=l) (row:=aa.row) underlying27 CX KF CY rfl (by rw[KG];decide) rfl rfl rfl rfl (by simpa using hk)) rfl ?_;refine .wv (st':=⟨[],[⟨61,12,(([]:O aa)++l).length,some ((([]:O aa)++l).map aa.row)⟩]⟩) rfl (.E 2 rfl (.R func23 results23 rfl ?_));exact ⟨[],[0],rfl,rfl,rfl,rfl,rfl,rfl,rfl,rfl,.ak _⟩
theorem nB {l r:O aa} (H:dv l=some r):aE prog 23 [ag 12 aa.row l] (·=ag 12 aa.row r):=.of (pz H).PX
def jL (base:Nat) (w:uC) (v:uB) (n:Nat) (xs:O uB) (v':uB) (w':uC):Prop :=
 w'.ownsRow base 102 3 v' n xs/\((v'.ownBlock=v.ownBlock/\w'.heap.size=w.heap.size/\w.grownBy w' v.ownBlock)∨(v'.ownBlock=some w.heap.size/\Below w.heap.size w w'))
theorem yk {base m:Nat} {w:uC} {u:uB} {ys:O uB} (hu:w.ownsRow base 102 3 u m ys) (h1:∀ y∈ys,y.oneCell'=true):Go.Abs.Src prog w 3 u m ys:=by
 rcases hu.2 with ⟨rfl,rfl⟩|⟨b,cap,cur,rfl,hb,hg,Fm,AL,Ag,yZ⟩
 ·have:ys=[]:=zba (by simpa using hu.1);subst this;exact ⟨rfl,λw' _=>run_firstCells_none w' _ 0 0 _,by simp,by simp⟩
 ·refine ⟨rfl,λw' hw=>run_firstCells_some w' _ m _ m cap ys hu.1 λj y hj=>?_,hu.1,h1⟩;rw[World.cell?_of_block (w:=w) (by rw[hw])];exact hu.cells (g:=b) rfl j y hj
theorem KH (w:uC) {base n m:Nat} {v u:uB} {xs ys:O uB} (hs:w.ownsRow base 102 3 v n xs) (hu:w.ownsRow base 102 3 u m ys) (hm:0<m) (hb:n+m<=1000000000) (mf:base<=w.heap.size) (h1:∀ y∈ys,y.oneCell'=true) :
  Calls prog 145 #[v,.int .i64 n,u] w λe w'=>∃ v',e=.returned v'/\jL base w v (n+m) (xs++ys) v' w':=by
 have t3:=underlying3;have t22:=underlying26;have u3:=run_underlying underlying3;have Ve:=run_underlying underlying26;have OK:¬ ((m:Int)=0):=by omega
 obtain ⟨i,hi,hz,gq,F1⟩:=rb;obtain ⟨v',w',iS,lT,_,hc⟩:=mL (P:=prog) (ty:=26) w underlying26 underlying26 (.inr ⟨_,rfl⟩) hi hz gq (by rfl) hs (yk hu h1) (by simp only[maxLen];omega) (by rw[F1];omega) mf;rcases hu.2 with ⟨_,h0⟩|⟨vb,vc,El,rfl,_⟩
 ·omega
 rcases hs.2 with ⟨rfl,rfl⟩|⟨b,c,cur,rfl,Cl,hg,Fm,AL,Ag,yZ⟩
 ·go_enter func145,ntmps145
  go_wp2_with (at_builtin;refine Lib.wpList_append_run _ rfl _ _ _ _ rfl _ _ rfl rfl _ _ iS ?_)
  go_ret;exact ⟨_,rfl,lT,hc⟩
 ·go_enter func145,ntmps145
  go_wp2_with (at_builtin;refine Lib.wpList_append_run _ rfl _ _ _ _ rfl _ _ rfl rfl _ _ iS ?_)
  all_goals (go_ret;exact ⟨_,rfl,lT,hc⟩)
theorem oZ {w:uC} {base b n c:Nat} {xs:O uB} (hs:w.ownsRow base 102 3 (.slice (some ⟨b,0,none⟩) n c) n xs):base<=b/\n<=c/\c<=maxLen/\∃ cur:uD uB,w.heap[b]?=some (.cells cur 102 (0,0))/\cur.size=c*3/\cur.toList.take (n*3)=xs:=by
 rcases hs.2 with ⟨h,_⟩|⟨b',c',cur,h,Cl,hg,Fm,AL,Ag,yZ⟩
 ·cases h
 ·cases h;exact ⟨Cl,Fm,AL,cur,hg,Ag,yZ⟩
theorem KI (w:uC) {b vb m vc o lb cb cs:Nat} {cur El:uD uB} (fK:vb≠b) (hg:w.heap[b]?=some (.cells cur 102 (0,0))) (RB:w.heap[vb]?=some (.cells El 102 (0,0))) (hk:cur.size≠0) :
  (callFunc 175 #[.slice (some ⟨vb,0,none⟩) m vc,.slice (some ⟨b,o,none⟩) lb cb]).run prog w=.ok (.value (.bool false)) w:=by
 obtain ⟨i,hi,hz,gq,F1⟩:=rb;rw[run_callFunc_extern func175 (by kernel_rfl) (by kernel_rfl) (by kernel_rfl) (e:=Extern.SlicesOverlaps.overlaps #[26,26] #[4]) (by kernel_rfl),
  Lib.run_overlaps_apart w 26 4 102 underlying26 3 (λw'=>by simp [sizeOf,typeInfo,hi,gq]) ⟨vb,0,none⟩ ⟨b,o,none⟩ m vc lb cb fK 102 102 El.size cur.size (by simp [World.shape?,RB]) (by simp [World.shape?,hg]) hk (by simp [World.frozen?,RB]) (by simp [World.frozen?,RB])]
 rfl
theorem Ha (w:uC) {base b n c i vb m vc:Nat} {xs ys:O uB} (hs:w.ownsRow base 102 3 (.slice (some ⟨b,0,none⟩) n c) n xs) (hu:w.ownsRow base 102 3 (.slice (some ⟨vb,0,none⟩) m vc) m ys) (fK:vb≠b) (hi:i<n) (hm:0<m) (hb:n+m<=1000000000) (vW:n+m<=c)
  (Fp:∀ x∈xs,x.oneCell'=true) (h1:∀ y∈ys,y.oneCell'=true) :
  Calls prog 145 #[.slice (some ⟨b,0,none⟩) n c,.int .i64 i,.slice (some ⟨vb,0,none⟩) m vc] w λe w'=>∃ v',e=.returned v'/\jL base w (.slice (some ⟨b,0,none⟩) n c) (n+m) (xs.take (i*3)++ys++xs.drop (i*3)) v' w':=by
 have t3:=underlying3;have t22:=underlying26;have u3:=run_underlying underlying3;have Ve:=run_underlying underlying26;obtain ⟨Cl,Fm,AL,cur,hg,Ag,yZ⟩:=oZ hs;obtain ⟨_,hvc,_,El,RB,Zy,Zz⟩:=oZ hu;obtain ⟨inf,mQ,hz,gq,F1⟩:=rb;simp only[maxLen] at AL;have z32:∀ w,(Go.sizeOf 102).run prog w=.ok 3 w:=λw'=>by simp [sizeOf,typeInfo,mQ,gq]
 have OK:¬ ((m:Int)=0):=by omega
 have hz2:¬ ((i:Int)=(n:Int)):=by omega
 have mixed:=mU;have hw1:IntKind.i64.wrap ((i:Int)+(m:Int))=(i:Int)+(m:Int):=by rw[IntKind.wrap_i64];omega
 have Gq:(0:Int)<=(i:Int)+(m:Int):=by omega
 have ET:i<=n:=by omega
 have htn:((i:Int)+(m:Int)).toNat=i+m:=by omega
 have Gr:¬ (c=i+m):=by omega
 have F2:(i:Int)<=(n:Int)+(m:Int):=by omega
 have VX:¬ (c=i):=by omega
 have Mu:cur.size≠0:=by rw[Ag];omega
 have xG:=hs.1;have w9:=hu.1;have hov:∀ o lb cb,(callFunc 175 #[.slice (some ⟨vb,0,none⟩) m vc,.slice (some ⟨b,o,none⟩) lb cb]).run prog w=.ok (.value (.bool false)) w:=λo lb cb=>KI (cs:=0) w fK hg RB Mu
 -- the first copy
 have CT:∀ j x,xs[j]?=some x->w.cell? ⟨b,j,none⟩=some x:=λj x hj=>by have:=hs.cells (g:=b) rfl j x hj;rwa [Addr.add_lit,zbu] at this
 have O3:∀ j v,(xs.drop (i*3))[j]?=some v->w.cell? (Addr.add ⟨b,i*3,none⟩ j)=some v:=λj v hj=>by
  rw[zbd] at hj;rw[Addr.add_lit];exact CT _ _ hj
 have VI:Nat.min (n+m-i) (n+m-(i+m))=n-i:=sO (by omega);have ZA:Nat.min m (n+m-i)=m:=sO (by omega);have zo:(xs.drop (i*3)).length=Nat.min (n+m-i) (n+m-(i+m))*3:=by rw[zbh,xG,VI];omega
 have Iz:∀ (W:uC),W.heap=w.heap->∀ ty dc sc,(Builtin.copy_ #[26,26] ty #[.slice (some ⟨b,(i+m)*3,none⟩) (n+m-(i+m)) dc,.slice (some ⟨b,i*3,none⟩) (n+m-i) sc]).run prog W=.ok (goInt (Nat.min (n+m-i) (n+m-(i+m)))) (W.setRow b (laid cur.toList ((i+m)*3) (xs.drop (i*3))).toArray):=λW hW ty dc sc =>
  pf W underlying26 mQ gq (by rw[hW];exact hg) zo (λj v hj=>by rw[World.cell?_of_block (w:=w) (by rw[hW])];exact O3 j v hj) (λv hv=>Fp v (zdd hv)) (by rw[zo,Ag,VI];omega)
 generalize AN:laid cur.toList ((i+m)*3) (xs.drop (i*3))=L1 at Iz;have s7:cur.toList.length=c*3:=by simpa using Ag
 have qm:(i+m)*3+(xs.drop (i*3)).length<=cur.toList.length:=by rw[zbh,xG,s7];omega
 have E8:L1.length=cur.toList.length:=by rw[←AN];exact jW qm
 have DL:∀ j v,ys[j]?=some v->w.cell? (Addr.add ⟨vb,0,none⟩ j)=some v:=λj v hj=>hu.cells (g:=vb) rfl j v hj
 have Mv:∀ (W:uC),W.heap[b]?=some (.cells L1.toArray 102 (0,0))->(∀ x:Addr,x.block≠b->W.cell? x=w.cell? x)->∀ ty dc,(Builtin.copy_ #[26,26] ty #[.slice (some ⟨b,i*3,none⟩) (n+m-i) dc,.slice (some ⟨vb,0,none⟩) m vc]).run prog W=.ok (goInt (Nat.min m (n+m-i))) (W.setRow b (laid L1 (i*3) ys).toArray):=λW Ts Tt ty dc =>
  pf W underlying26 mQ gq Ts (by rw[w9,ZA]) (λj v hj=>by rw[Tt _ (by rw[Addr.add_lit];exact fK)];exact DL j v hj) h1 (by simp only[zbx];omega)
 have Oa:((w.drew).setRow b L1.toArray).heap[b]?=some (.cells L1.toArray 102 (0,0)):=setRow_heap w.drew b cur _ 102 (0,0) hg;have vO:∀ x:Addr,x.block≠b->((w.drew).setRow b L1.toArray).cell? x=w.cell? x:=λx hx=>World.cell?_of_block (w:=w) (setRow_other w.drew b x.block _ hx)
 have qS:jL base w (.slice (some ⟨b,0,none⟩) n c) (n+m) (xs.take (i*3)++ys++xs.drop (i*3)) (.slice (some ⟨b,0,none⟩) (n+m) c) (((w.drew).setRow b L1.toArray).setRow b (laid L1 (i*3) ys).toArray):=by
  have CU:i*3+ys.length<=L1.length:=by rw[w9,E8,s7];omega
  refine ⟨⟨by simp only[zah,zbb,zbh];omega,.inr ⟨b,c,_,rfl,Cl,setRow_heap _ b _ _ 102 (0,0) Oa,vW,by simp only[maxLen];omega,by rw[zbx,jW CU,E8,s7],?_⟩⟩,
   .inl ⟨rfl,by simp,⟨rfl,rfl,rfl,by simp,λk hk KE=>?_⟩⟩⟩
  ·rw[zdi,kN CU (by rw[w9];omega),←AN];have e1:(laid cur.toList ((i+m)*3) (xs.drop (i*3))).take (i*3)=xs.take (i*3):=by
    apply zck;intro j;rw[zam,zam,zC qm];by_cases h:j<i*3
    ·rw[zab h,zab h,zaa (by omega),←yZ,zam,zab (by omega)]
    ·rw[zaa h,zaa h]
   rw[e1];congr 1;rw[kN qm (by rw[zbh,xG];omega),w9];apply zck;intro j;rw[zbd];have cH:(List.take ((i+m)*3) cur.toList).length=(i+m)*3:=by rw[zbb,s7];omega
   by_cases h:j<(n-i)*3
   ·rw[zap (by rw[zah,cH,zbh,xG];omega),zax (by rw[cH];omega),cH];congr 1;omega
   ·rw[zbq (by simp only[zah,zbh,zbb,s7,xG];omega),zbq (by rw[zbh,xG];omega)]
  ·rw[setRow_other _ b k _ (λe=>KE (by rw[e];rfl)),setRow_other _ b k _ (λe=>KE (by rw[e];rfl))];rfl
 have Tu:=Iz w.drew rfl;have Tv:=Mv _ Oa vO;go_enter func145,ntmps145
 go_wp2_with (simp only[hov])
 go_region_law_o (refine oq rfl _ _ 26 26 rfl _ _ (by simp [Act.eval,Act.put]) (by simp [Act.eval,Act.put]) (Tu _ _ _) ?_)
 go_wp2_with (at_builtin;refine lE _ rfl _ _ 26 26 rfl _ _ rfl rfl (Tv _ _) ?_)
 go_ret;exact ⟨_,rfl,qS⟩
theorem ID (w:uC) {base b n c i vb m vc:Nat} {xs ys:O uB} (hs:w.ownsRow base 102 3 (.slice (some ⟨b,0,none⟩) n c) n xs) (hu:w.ownsRow base 102 3 (.slice (some ⟨vb,0,none⟩) m vc) m ys) (hi:i<n) (hm:0<m) (hb:n+m<=1000000000) (vW:c<n+m) (mf:base<=w.heap.size)
  (Fp:∀ x∈xs,x.oneCell'=true) (h1:∀ y∈ys,y.oneCell'=true) :
  Calls prog 145 #[.slice (some ⟨b,0,none⟩) n c,.int .i64 i,.slice (some ⟨vb,0,none⟩) m vc] w λe w'=>∃ v',e=.returned v'/\jL base w (.slice (some ⟨b,0,none⟩) n c) (n+m) (xs.take (i*3)++ys++xs.drop (i*3)) v' w':=by
 have t3:=underlying3;have t22:=underlying26;have u3:=run_underlying underlying3;have Ve:=run_underlying underlying26;obtain ⟨Cl,Fm,AL,cur,hg,Ag,yZ⟩:=oZ hs;obtain ⟨_,hvc,_,El,RB,Zy,Zz⟩:=oZ hu;obtain ⟨inf,mQ,hz,gq,F1⟩:=rb;simp only[maxLen] at AL;have mixed:=mU;have OK:¬ ((m:Int)=0):=by omega
 have hz2:¬ ((i:Int)=(n:Int)):=by omega
 have wF:(c:Int)<(n:Int)+(m:Int):=by omega
 have hbw:b<w.heap.size:=(hs.lt b rfl).2;have hvw:vb<w.heap.size:=(hu.lt vb rfl).2;have hkk:(n:Int)+(m:Int) - (i:Int)=((n+m-i:Nat):Int):=by omega
 have ZB:i+(n+m-i)=n+m:=by omega
 have xG:=hs.1;have w9:=hu.1;have CT:∀ j x,xs[j]?=some x->w.cell? ⟨b,j,none⟩=some x:=λj x hj=>by have:=hs.cells (g:=b) rfl j x hj;rwa [Addr.add_lit,zbu] at this
 have hold:(Builtin.firstCells inf.size i (.slice (some ⟨b,0,none⟩) i c)).run prog w.drew=.ok (xs.take (i*3)).toArray w.drew:=by
  rw[gq];refine run_firstCells_some w.drew 3 i ⟨b,0,none⟩ i c (xs.take (i*3)) (by rw[zbb];omega) (λj v hj=>?_);rw[Addr.add_lit,zbu];rw[zam] at hj;split at hj
  ·exact CT j v hj
  ·cases hj
 generalize hzv:(Value.agg _)=zv at hz;have EO:zv.cells.size=3:=by rw[←hzv];rfl
 have ZC:∀ ty,(Builtin.append_ #[26,3] ty #[.slice (some ⟨b,0,none⟩) i c,.int .i64 ((n:Int)+(m:Int) - (i:Int))]).run prog w =
   .ok (.slice (some ⟨w.heap.size,0,none⟩) (n+m) (grownCap w (n+m) c 102)) (w.drew.alloc (.cells ((xs.take (i*3)).toArray++Builtin.zeroCells zv.cells (n+m-i)++Builtin.zeroCells zv.cells (grownCap w (n+m) c 102-(n+m))) 102)):=λty=>by
  have h:=Lib.run_append_grow_zeros w 26 3 ty 102 inf zv .i64 .i64 underlying26 underlying3 mQ hz (some ⟨b,0,none⟩) i c (xs.take (i*3)) hold (n+m-i) (by omega) (by omega) (by omega) (by omega) (by rw[F1];omega) (by rw[ZB];exact growslice_fits vW (by rw[F1];omega));rw[ZB] at h;rw[hkk];exact h
 have hGn:n+m<=grownCap w (n+m) c 102:=grownCap_ge w _ _ _;have Tw:grownCap w (n+m) c 102<=maxLen:=grownCap_le_maxLen w (n+m) c 102 (by unfold maxLen;omega);generalize grownCap w (n+m) c 102=G at ZC hGn Tw;simp only[maxLen] at Tw;generalize hROW:(xs.take (i*3)).toArray++Builtin.zeroCells zv.cells (n+m-i)++Builtin.zeroCells zv.cells (G-(n+m))=wG at ZC;have hRl:wG.size=G*3:=by
  rw[←hROW];simp only[zfr,zbx,zbb,size_zeroCells,EO,xG];omega
 have hRt:wG.toList.take (i*3)=xs.take (i*3):=by
  rw[←hROW];simp only[zgg,zar];rw[zee (by rw[zbb];omega),zbz (by rw[zbb];omega)]
 have ZD:wG.toList.length=G*3:=by simpa using hRl
 have hmA:Nat.min m (n+m-i)=m:=sO (by omega);have hmB:Nat.min (n-i) (n+m-(i+m))=n-i:=sO (by omega);have zo:(xs.drop (i*3)).length=(n-i)*3:=by rw[zbh,xG];omega
 have Mw:i*3+ys.length<=wG.toList.length:=by rw[w9,ZD];omega
 have Tx:∀ (W:uC),W.heap[w.heap.size]?=some (.cells wG 102 (0,0))->(∀ x:Addr,x.block<w.heap.size->W.cell? x=w.cell? x)->∀ ty dc,(Builtin.copy_ #[26,26] ty #[.slice (some ⟨w.heap.size,i*3,none⟩) (n+m-i) dc,.slice (some ⟨vb,0,none⟩) m vc]).run prog W=.ok (goInt (Nat.min m (n+m-i))) (W.setRow w.heap.size (laid wG.toList (i*3) ys).toArray):=λW Ts Tt ty dc =>
  pf W underlying26 mQ gq Ts (by rw[w9,hmA]) (λj v hj=>by rw[Tt _ (by rw[Addr.add_lit];exact hvw)];exact hu.cells (g:=vb) rfl j v hj) h1 (by rw[w9,hRl];omega)
 generalize AN:laid wG.toList (i*3) ys=L1 at Tx;have E8:L1.length=wG.toList.length:=by rw[←AN];exact jW Mw
 have Mx:(i+m)*3+(xs.drop (i*3)).length<=L1.length:=by rw[zo,E8,ZD];omega
 have Ty:∀ (W:uC),W.heap[w.heap.size]?=some (.cells L1.toArray 102 (0,0))->(∀ x:Addr,x.block<w.heap.size->W.cell? x=w.cell? x)->∀ ty dc sc,(Builtin.copy_ #[26,26] ty #[.slice (some ⟨w.heap.size,(i+m)*3,none⟩) (n+m-(i+m)) dc,.slice (some ⟨b,i*3,none⟩) (n-i) sc]).run prog W=.ok (goInt (Nat.min (n-i) (n+m-(i+m)))) (W.setRow w.heap.size (laid L1 ((i+m)*3) (xs.drop (i*3))).toArray):=λW Ts Tt ty dc sc =>
  pf W underlying26 mQ gq Ts (by rw[zo,hmB]) (λj v hj=>by
   rw[Tt _ (by rw[Addr.add_lit];exact hbw),Addr.add_lit];rw[zbd] at hj;exact CT _ _ hj) (λv hv=>Fp v (zdd hv)) (by simp only[zbx];omega)
 generalize CF:laid L1 ((i+m)*3) (xs.drop (i*3))=L2 at Ty;have Sf:L2.length=L1.length:=by rw[←CF];exact jW Mx
 have CV:∀ W:uC,W.heap=w.heap.push (.cells wG 102 (0,0))->W.heap[w.heap.size]?=some (.cells wG 102 (0,0)):=λW hW=>by rw[hW];simp
 have ZE:∀ W:uC,W.heap=w.heap.push (.cells wG 102 (0,0))->∀ x:Addr,x.block<w.heap.size->W.cell? x=w.cell? x:=λW hW x hx=>World.cell?_of_block (w:=w) (by rw[hW,zds hx];simp [hx]);have hB0:∀ W:uC,W.heap=w.heap.push (.cells wG 102 (0,0))->(W.setRow w.heap.size L1.toArray).heap[w.heap.size]?=some (.cells L1.toArray 102 (0,0)):=λW hW=>setRow_heap W _ wG _ 102 (0,0) (CV W hW)
 have U8:∀ W:uC,W.heap=w.heap.push (.cells wG 102 (0,0))->∀ x:Addr,x.block<w.heap.size->(W.setRow w.heap.size L1.toArray).cell? x=w.cell? x:=λW hW x hx=>(World.cell?_of_block (w:=W) (setRow_other W _ x.block _ (by omega))).trans (ZE W hW x hx)
 have qS:∀ W W2:uC,W.heap=w.heap.push (.cells wG 102 (0,0))->W.os=w.os->W.tape=w.tape->W.output=w.output->W2.heap=(W.setRow w.heap.size L1.toArray).heap->W2.os=w.os->W2.tape=w.tape->W2.output=w.output ->
   jL base w (.slice (some ⟨b,0,none⟩) n c) (n+m) (xs.take (i*3)++ys++xs.drop (i*3)) (.slice (some ⟨w.heap.size,0,none⟩) (n+m) G) (W2.setRow w.heap.size L2.toArray):=by
  intro W W2 hW ho ht hou ZF QY DM ZG;have ZH:W2.heap[w.heap.size]?=some (.cells L1.toArray 102 (0,0)):=by rw[ZF];exact hB0 W hW
  refine ⟨⟨by simp only[zah,zbb,zbh];omega,.inr ⟨w.heap.size,G,_,rfl,mf,setRow_heap _ _ _ _ 102 (0,0) ZH,hGn,by simp only[maxLen];omega,by rw[zbx,Sf,E8,ZD],?_⟩⟩,
   .inr ⟨rfl,⟨QY,DM,ZG,by simp [ZF,hW],λk hk=>?_⟩⟩⟩
  ·have e2:(L1.take ((n+m)*3)).drop ((i+m)*3+(xs.drop (i*3)).length)=[]:=zcp (by rw[zbb,zo];omega);rw[zdi,←CF,kN Mx (by rw[zo];omega),e2,←AN];have e1:(laid wG.toList (i*3) ys).take ((i+m)*3)=xs.take (i*3)++ys:=by
    rw[kN Mw (by rw[w9];omega),hRt,w9,zcp (by rw[zbb];omega),zbp]
   rw[e1,zbp]
  ·rw[setRow_other _ _ k _ (by omega),ZF,setRow_other _ _ k _ (by omega),hW,zds hk];simp [hk]
 clear hkk ZB hold hROW;have hGi:¬ (G=i):=by omega
 have hGim:¬ (G=i+m):=by omega
 have rR:¬ (c=i):=by omega
 have hw1:IntKind.i64.wrap ((i:Int)+(m:Int))=(i:Int)+(m:Int):=by rw[IntKind.wrap_i64];omega
 have Gq:(0:Int)<=(i:Int)+(m:Int):=by omega
 have ET:i<=n:=by omega
 have htn:((i:Int)+(m:Int)).toNat=i+m:=by omega
 have F2:(i:Int)<=(n:Int):=by omega
 have Tz:=Tx (w.alloc (.cells wG 102)).drew (CV _ rfl) (ZE _ rfl);have TA:=Ty ((w.alloc (.cells wG 102)).drew.setRow w.heap.size L1.toArray).drew (hB0 _ rfl) (U8 (w.alloc (.cells wG 102)).drew rfl);have TB:=qS (w.alloc (.cells wG 102)).drew ((w.alloc (.cells wG 102)).drew.setRow w.heap.size L1.toArray).drew rfl rfl rfl rfl rfl rfl rfl rfl;go_enter func145,ntmps145
 go_wp2_with (first
  | (at_builtin;refine Lib.wpList_append_run _ rfl _ _ _ _ rfl _ _ rfl rfl _ _ (ZC _) ?_)
  | (at_builtin;refine lE _ rfl _ _ 26 26 rfl _ _ rfl rfl (Tz _ _) ?_))
 go_region_law_o (refine oq rfl _ _ 26 26 rfl _ _ (by simp [Act.eval,Act.put]) (by simp [Act.eval,Act.put]) (TA _ _ _) ?_)
 go_wp2
 go_ret;exact ⟨_,rfl,TB⟩
theorem KJ (w:uC) {base m:Nat} {A:J Addr} {u:uB} {ys:O uB} (hu:w.ownsRow base 102 3 u m ys) (hm:0<m) (hb:m<=1000000000) (mf:base<=w.heap.size) (h1:∀ y∈ys,y.oneCell'=true) :
  Calls prog 145 #[.slice A 0 0,.int .i64 0,u] w λe w'=>∃ v',e=.returned v'/\jL base w (.slice none 0 0) m ys v' w':=by
 have t3:=underlying3;have t22:=underlying26;have u3:=run_underlying underlying3;have Ve:=run_underlying underlying26;have OK:¬ ((m:Int)=0):=by omega
 obtain ⟨i,hi,hz,gq,F1⟩:=rb;have hs:=World.ownsRow_nil w base 102 3;obtain ⟨v',w',iS,lT,_,hc⟩:=mL (P:=prog) (ty:=26) w underlying26 underlying26 (.inr ⟨_,rfl⟩) hi hz gq (by rfl) hs (yk hu h1) (by simp only[maxLen];omega) (by rw[F1];omega) mf;rw[zbu,zbt] at lT;have My:=((xL (ty:=26) underlying26 underlying26 (.inr ⟨_,rfl⟩) hi hz gq (yk hu h1) (by omega) (by rw[F1];omega) A).2 (by omega)).trans iS;rcases hu.2 with ⟨_,h0⟩|⟨vb,vc,El,rfl,_⟩
 ·omega
 cases A with
 | none =>
  go_enter func145,ntmps145
  go_wp2_with (at_builtin;refine Lib.wpList_append_run _ rfl _ _ _ _ rfl _ _ rfl rfl _ _ My ?_)
  all_goals (go_ret;exact ⟨_,rfl,lT,hc⟩)
 | some A =>
  obtain ⟨ab,ao,asp⟩:=A;go_enter func145,ntmps145
  go_wp2_with (at_builtin;refine Lib.wpList_append_run _ rfl _ _ _ _ rfl _ _ rfl rfl _ _ My ?_)
  all_goals (go_ret;exact ⟨_,rfl,lT,hc⟩)
theorem Hb (w:uC) {base n m i:Nat} {v u:uB} {xs ys:O uB} (hs:w.ownsRow base 102 3 v n xs) (hu:w.ownsRow base 102 3 u m ys) (fK:∀ b,v.ownBlock=some b->u.ownBlock≠some b) (hi:i<=n) (hm:0<m) (hb:n+m<=1000000000) (mf:base<=w.heap.size)
  (Fp:∀ x∈xs,x.oneCell'=true) (h1:∀ y∈ys,y.oneCell'=true) :
  Calls prog 145 #[v,.int .i64 i,u] w λe w'=>∃ v',e=.returned v'/\jL base w v (n+m) (xs.take (i*3)++ys++xs.drop (i*3)) v' w':=by
 by_cases ET:i=n
 ·subst ET;have xG:=hs.1;rw[zbz (by omega),zcp (by omega),zbp];exact KH w hs hu hm hb mf h1
 ·obtain ⟨b,c,rfl⟩:=(jV hs).2 (by omega);obtain ⟨vb,vc,rfl⟩:=(jV hu).2 (by omega);by_cases hr:n+m<=c
  ·exact Ha w hs hu (λe=>fK b rfl (by rw[e];rfl)) (by omega) hm hb hr Fp h1
  ·exact ID w hs hu (by omega) hm hb (by omega) mf Fp h1
theorem Fw {l l' r:O Range} {n0 n1:Nat} {i:Int} (H:sP i l l'=some r) :
  aN prog 145 [.vc 0 n0,.d (cI i),.vc 1 n1] ⟨[],[⟨102,3,n0,some (l.map Range.row)⟩,⟨102,3,n1,some (l'.map Range.row)⟩]⟩
   (QE (.vc 2 r.length) ⟨[],[⟨102,3,([]:O Range).length,none⟩,⟨102,3,n1,some (l'.map Range.row)⟩,⟨102,3,r.length,some (r.map Range.row)⟩]⟩):=by
 obtain ⟨hk,H⟩:=ar H;cases H;intro g w base vs hinv ha;obtain ⟨x,y,z,rfl,e1,e2,e3⟩:=Tc rfl ha;obtain ⟨k0,k1,k2,k3⟩:=hk;have N9:y=.int .i64 i:=e2.bO;subst N9;obtain ⟨xs,s1,s2,s3⟩:=hinv.own 0 _ _ _ _ rfl;obtain ⟨ys,u1,u2,u3⟩:=hinv.own 1 _ _ _ _ rfl;have N6:n0=l.length:=by have:=s3.len;simpa using this.symm
 have hn1:n1=l'.length:=by have:=u3.len;simpa using this.symm
 have hz:z=g.tk 1:=by
  rcases ub hinv rfl e3 with h|⟨_,h,_⟩
  ·exact h
  ·have:l'=[]:=by simpa using h
   rw[this] at k2;simp at k2
 subst hz;obtain ⟨j,rfl⟩:∃ j:Nat,i=(j:Int):=⟨i.toNat,by omega⟩;have s6:=s3.YN s1.1 u3 u1.1 (i:=j) (j:=j) (zaq _) (by omega);have kS:(l.map Range.row).take j++l'.map Range.row++(l.map Range.row).drop j=(l.take j++l'++l.drop j).map Range.row:=by simp [List.map_take,List.map_drop]
 rw[kS,show j+n1+(n0-j)=n0+n1 from by omega] at s6;have hlen:(l.take j++l'++l.drop j).length=n0+n1:=by simp;omega
 have Fp:=s3.one s1.1;have h1y:=u3.one u1.1;have fin:∀ v0:uB,(v0.ownBlock=(g.tk 0).ownBlock∨v0.ownBlock=none/\0<n0+n1)->∀ e w',(∃ v',e=.returned v'/\jL base w v0 (n0+n1) (xs.take (j*3)++ys++xs.drop (j*3)) v' w') ->
   pD ⟨g,w,⟨[],[⟨102,3,n0,some (l.map Range.row)⟩,⟨102,3,n1,some (l'.map Range.row)⟩]⟩,base⟩ (QE (.vc 2 (l.take (j:Int).toNat++l'++l.drop (j:Int).toNat).length) ⟨[],[⟨102,3,([]:O Range).length,none⟩,⟨102,3,n1,some (l'.map Range.row)⟩,⟨102,3,(l.take (j:Int).toNat++l'++l.drop (j:Int).toNat).length,some ((l.take (j:Int).toNat++l'++l.drop (j:Int).toNat).map Range.row)⟩]⟩) e w':=by
  rintro v0 Ox e w' ⟨v',rfl,ho,hc⟩;rw[zcr,hlen];refine xY hinv (tk:=0) rfl rfl ho ?_ s6;rcases hc with ⟨c1,c2,c3⟩|hc
  ·rcases Ox with Ox|⟨Ox,hp⟩
   ·rw[Ox] at c1 c3;exact .inl ⟨c1,c2,c3⟩
   ·rw[Ox] at c1;obtain ⟨b,c,BN⟩:=(jV ho).2 (by omega);rw[BN] at c1;cases c1
  ·exact .inr hc
 rcases ub hinv rfl e1 with hx|⟨h0,YP,A,hx⟩
 ·subst hx;refine (Hb w s1 u1 (λb h1 h2=>hinv.pJ 0 1 _ _ b (by decide) rfl rfl h1 h2) (i:=j) (by omega) (by omega) (by omega) hinv.base Fp h1y).mono ?_;exact fin _ (.inl rfl)
 ·subst hx;have hj:j=0:=by omega
  subst hj;have Vt:xs=[]:=zba (by rw[s1.1,h0,zfz]);subst Vt;refine (KJ w (A:=A) u1 (by omega) (by omega) hinv.base h1y).mono λe w' hh=>fin (.slice none 0 0) (.inr ⟨rfl,by omega⟩) e w' ?_
  rw[h0,zbu];simpa using hh
theorem Hc (w:uC) {base b n c i j:Nat} {xs:O uB} (hs:w.ownsRow base 102 3 (.slice (some ⟨b,0,none⟩) n c) n xs) (h1:∀ y∈xs,y.oneCell'=true) (hi:i<j) (hj:j<=n) (hb:n<=1000000000) :
  Calls prog 147 #[.slice (some ⟨b,0,none⟩) n c,.int .i64 i,.int .i64 j] w λe w'=>∃ v',e=.returned v'/\jL base w (.slice (some ⟨b,0,none⟩) n c) (i+(n-j)) (xs.take (i*3)++xs.drop (j*3)) v' w':=by
 have t3:=underlying3;have t22:=underlying26;have u3:=run_underlying underlying3;have Ve:=run_underlying underlying26;obtain ⟨Cl,Fm,AL,cur,hg,Ag,yZ⟩:=oZ hs;obtain ⟨inf,mQ,hz,gq,F1⟩:=rb;simp only[maxLen] at AL;generalize hzv:(Value.agg _)=zv at hz;have EO:zv.cells.size=3:=by rw[←hzv];rfl
 have OK:∀ v∈(Builtin.zeroCells zv.cells (n-(i+(n-j)))).toList,v.oneCell'=true:=wx (by rw[EO,←hzv];decide);have xG:=hs.1;have s7:cur.toList.length=c*3:=by simpa using Ag
 have w9:(xs.drop (j*3)).length=(n-j)*3:=by rw[zbh,xG];omega
 have cV:∀ y∈xs.drop (j*3),y.oneCell'=true:=λy hy=>h1 y (zdd hy)
 have qm:i*3+(xs.drop (j*3)).length<=cur.toList.length:=by rw[w9,s7];omega
 have hgd:w.drew.heap[b]?=some (.cells cur 102 (0,0)):=hg;have tJ:∀ (q:Nat) (y:uB),xs[q]?=some y->w.drew.cell? ((⟨b,0,none⟩:Addr).add q)=some y:=hs.cells (g:=b) rfl;have hf:(Builtin.firstCells 3 (n-j) (.slice (if c=j then some ⟨b,0,none⟩ else some ⟨b,j*3,none⟩) (n-j) (c-j))).run prog w.drew=.ok (xs.drop (j*3)).toArray w.drew:=by
  by_cases ZI:c=j
  ·have hnj:n-j=0:=by omega
   have hx0:xs.drop (j*3)=[]:=zba (by rw[w9,hnj,zfz]);rw[zab ZI,hnj,hx0];exact run_firstCells_some w.drew _ 0 _ 0 (c-j) [] rfl (λq y hq=>by simp at hq)
  ·rw[zaa ZI];exact run_firstCells_some w.drew _ (n-j) _ (n-j) (c-j) _ w9 λq y hq=>by
    rw[zbd] at hq;have:=tJ (j*3+q) y hq;simp only[Addr.add_lit,zbu] at this ⊢;exact this
 have iS:∀ ty,(Builtin.append_ #[26,26] ty #[.slice (some ⟨b,0,none⟩) i c,.slice (if c=j then some ⟨b,0,none⟩ else some ⟨b,j*3,none⟩) (n-j) (c-j)]).run prog w.drew=.ok (.slice (some ⟨b,0,none⟩) (i+(n-j)) c) (w.drew.setRow b (laid cur.toList (i*3) (xs.drop (j*3))).toArray):=λty =>
  E2 w.drew underlying26 mQ gq hgd (by omega) hf cV (by rw[←zdb];exact qm)
 generalize hys:xs.drop (j*3)=ys at iS qm w9 cV hf ⊢;generalize AN:laid cur.toList (i*3) ys=L1 at iS;have E8:L1.length=cur.toList.length:=by rw[←AN];exact jW qm
 have Oa:(w.drew.setRow b L1.toArray).heap[b]?=some (.cells L1.toArray 102 (0,0)):=setRow_heap w.drew b cur _ 102 (0,0) hgd;have Vf:L1.take ((i+(n-j))*3)=xs.take (i*3)++ys:=by
  have e1:(cur.toList.take ((i+(n-j))*3)).drop (i*3+ys.length)=[]:=zcp (by rw[zbb,w9];omega);rw[←AN,kN qm (by rw[w9];omega),e1,zbp,←yZ,zfp,show min (i*3) (n*3)=i*3 from by omega]
 have hlen:(xs.take (i*3)++ys).length=(i+(n-j))*3:=by simp only[zah,zbb];omega
 have hm:i+(n-j)<n:=by omega
 have E9:(i+(n-j))*3+(Builtin.zeroCells zv.cells (n-(i+(n-j)))).toList.length<=L1.length:=by rw[zdb,size_zeroCells,EO,E8,s7];omega
 have Fv:∀ ty dc,(Builtin.clear_ #[26] ty #[.slice (some ⟨b,(i+(n-j))*3,none⟩) (n-(i+(n-j))) dc]).run prog (w.drew.setRow b L1.toArray)=.ok (.tuple #[]) ((w.drew.setRow b L1.toArray).setRow b (laid L1 ((i+(n-j))*3) (Builtin.zeroCells zv.cells (n-(i+(n-j)))).toList).toArray):=λty dc=>by
  have:=BV (P:=prog) (ty:=ty) (c:=dc) (w.drew.setRow b L1.toArray) (o:=(i+(n-j))*3) (n:=n-(i+(n-j))) underlying26 mQ hz EO Oa (by omega) (by rw[zbx,E8,s7];omega) OK;exact this
 generalize CF:laid L1 ((i+(n-j))*3) (Builtin.zeroCells zv.cells (n-(i+(n-j)))).toList=L2 at Fv;have Sf:L2.length=L1.length:=by rw[←CF];exact jW E9
 have Vg:L2.take ((i+(n-j))*3)=xs.take (i*3)++ys:=by rw[←CF,BW E9 (zaq _),Vf]
 have qS:jL base w (.slice (some ⟨b,0,none⟩) n c) (i+(n-j)) (xs.take (i*3)++ys) (.slice (some ⟨b,0,none⟩) (i+(n-j)) c) ((w.drew.setRow b L1.toArray).setRow b L2.toArray) :=
  ⟨⟨hlen,.inr ⟨b,c,_,rfl,Cl,setRow_heap _ b _ _ 102 (0,0) Oa,by omega,by simp only[maxLen];omega,by rw[zbx,Sf,E8,s7],by rw[zdi,Vg]⟩⟩,
   .inl ⟨rfl,by simp,⟨rfl,rfl,rfl,by simp,λk hk KE=>by rw[setRow_other _ b k _ (λe=>KE (by rw[e];rfl)),setRow_other _ b k _ (λe=>KE (by rw[e];rfl))];rfl⟩⟩⟩
 generalize hmg:n-j=m at *;obtain rfl:j=n-m:=by omega
 have ET:i<=n:=by omega
 have hic:i<=c:=by omega
 have hnmc:n-m<=c:=by omega
 have hnmn:n-m<=n:=by omega
 have mixed:=mU;have hij2:i<=n-m:=by omega
 have YS:(0:Int)<=(i:Int):=by omega
 have rR:¬ (c=i):=by omega
 have hcim:¬ (c=i+m):=by omega
 have hle:i+m<=n:=by omega
 have fK:¬ ((i:Int)=((n-m:Nat):Int)):=by omega
 by_cases ZI:c=n-m
 ·subst ZI;rw[zab rfl] at hf;simp only[zab] at iS;go_enter func147,ntmps147
  go_wp2
  go_region_law_o (refine Bf rfl _ _ 26 rfl _ _ (by simp [Act.eval,Act.put]) (by simp [Act.eval,Act.put]) (iS _) ?_)
  go_wp2_with (at_builtin;refine mi _ rfl _ 26 rfl _ rfl (Fv _ _) ?_)
  all_goals (go_ret;exact ⟨_,rfl,qS⟩)
 ·rw[zaa ZI] at hf;simp only[zaa ZI] at iS;go_enter func147,ntmps147
  go_wp2
  go_region_law_o (refine Bf rfl _ _ 26 rfl _ _ (by simp [Act.eval,Act.put]) (by simp [Act.eval,Act.put]) (iS _) ?_)
  go_wp2_with (at_builtin;refine mi _ rfl _ 26 rfl _ rfl (Fv _ _) ?_)
  all_goals (go_ret;exact ⟨_,rfl,qS⟩)
theorem yQ {l r:O Range} {n0:Nat} {i j:Int} (H:pZ i j l=some r) :
  aN prog 147 [.vc 0 n0,.d (cI i),.d (cI j)] ⟨[],[⟨102,3,n0,some (l.map Range.row)⟩]⟩
   (QE (.vc 1 r.length) ⟨[],[⟨102,3,([]:O Range).length,none⟩,⟨102,3,r.length,some (r.map Range.row)⟩]⟩):=by
 obtain ⟨hk,H⟩:=ar H;cases H;intro g w base vs hinv ha;obtain ⟨x,y,z,rfl,e1,e2,e3⟩:=Tc rfl ha;obtain ⟨k0,k1,k2,k3⟩:=hk;have N9:y=.int .i64 i:=e2.bO;have e3':z=.int .i64 j:=e3.bO;subst N9;subst e3';obtain ⟨xs,s1,s2,s3⟩:=hinv.own 0 _ _ _ _ rfl;have N6:n0=l.length:=by have:=s3.len;simpa using this.symm
 have hx:x=g.tk 0:=by
  rcases ub hinv rfl e1 with h|⟨_,h,_⟩
  ·exact h
  ·have:l=[]:=by simpa using h
   rw[this] at k2;simp at k2;omega
 subst hx;obtain ⟨i',rfl⟩:∃ q:Nat,i=(q:Int):=⟨i.toNat,by omega⟩;obtain ⟨j',rfl⟩:∃ q:Nat,j=(q:Int):=⟨j.toNat,by omega⟩;have s6:=(s3.take (k:=i') (by omega)).app (by rw[zbb,s1.1];have:i'*3<=n0*3:=zcw _ (by omega);omega) (s3.drop (k:=j') (by omega));have kS:(l.map Range.row).take i'++(l.map Range.row).drop j'=(l.take i'++l.drop j').map Range.row:=by simp [List.map_take,List.map_drop]
 rw[kS] at s6;have hlen:(l.take i'++l.drop j').length=i'+(n0-j'):=by simp;omega
 obtain ⟨b,c,hv⟩:=(jV s1).2 (by omega);have Fp:=s3.one s1.1;have VY:=s1;rw[hv] at VY;have hw:=Hc w VY Fp (i:=i') (j:=j') (by omega) (by omega) (by omega);rw[←hv] at hw;refine hw.mono ?_;rintro e w' ⟨v',rfl,ho,hc⟩;rw[zcr,zcr,hlen];exact xY hinv (tk:=0) rfl rfl ho hc s6
theorem yR {l r:O Range} (H:gK l=some r):aN prog 44 [.d (ag 3 Range.row l)] ⟨[],[]⟩ (QE (.vc 0 r.length) ⟨[],[⟨102,3,r.length,some (r.map Range.row)⟩]⟩):=by
 obtain ⟨hk,H⟩:=ar H;cases H;obtain ⟨i32,CX,KF,CY,KG⟩:=rb;refine aN.kT ?_;refine aN.enter func44 rfl ntmps44 rfl λS hS=>?_
 refine .F 8 rfl (.Ml underlying26 rfl rfl λb hb=>?_);refine .E 1 rfl (.cond rfl (λhc=>?_) (λhc=>?_))
 ·have hl:l=[]:=by simpa using hb hc
  subst hl;refine .E 4 rfl (.Re (i:=2) (e:=102) (sz:=3) rfl (.R func44 results44 rfl ?_));exact ⟨[],[0],rfl,rfl,rfl,rfl,rfl,rfl,rfl,rfl,.ak _⟩
 ·refine .F 3 rfl (.v (x:=.vc 0 ([]:O Range).length) (w6 Range.row underlying26 CX CY) rfl (.wv (st':=⟨[],[⟨102,3,([]:O Range).length,some (([]:O Range).map Range.row)⟩]⟩) rfl (.F 1 rfl ?_)));refine .v (x:=.vc 0 (([]:O Range)++l).length) (gr (l:=[]) (l':=l) (row:=Range.row) underlying26 CX KF CY rfl (by rw[KG];decide) rfl rfl rfl rfl (by simpa using hk)) rfl ?_;refine .wv (st':=⟨[],[⟨102,3,(([]:O Range)++l).length,some ((([]:O Range)++l).map Range.row)⟩]⟩) rfl (.E 2 rfl (.R func44 results44 rfl ?_));exact ⟨[],[0],rfl,rfl,rfl,rfl,rfl,rfl,rfl,rfl,.ak _⟩
theorem rM {l r:O Range} (H:gK l=some r):aE prog 44 [ag 3 Range.row l] (·=ag 3 Range.row r):=.of (yR H).PX
theorem zK {l r:O Head} (H:kW l=some r):aN prog 45 [.d (ag 4 Head.row l)] ⟨[],[]⟩ (QE (.vc 0 r.length) ⟨[],[⟨91,4,r.length,some (r.map Head.row)⟩]⟩):=by
 obtain ⟨hk,H⟩:=ar H;cases H;obtain ⟨i32,CX,KF,CY,KG⟩:=E3;refine aN.kT ?_;refine aN.enter func45 rfl ntmps45 rfl λS hS=>?_
 refine .F 8 rfl (.Ml underlying28 rfl rfl λb hb=>?_);refine .E 1 rfl (.cond rfl (λhc=>?_) (λhc=>?_))
 ·have hl:l=[]:=by simpa using hb hc
  subst hl;refine .E 4 rfl (.Re (i:=2) (e:=91) (sz:=4) rfl (.R func45 results45 rfl ?_));exact ⟨[],[0],rfl,rfl,rfl,rfl,rfl,rfl,rfl,rfl,.ak _⟩
 ·refine .F 3 rfl (.v (x:=.vc 0 ([]:O Head).length) (w6 Head.row underlying28 CX CY) rfl (.wv (st':=⟨[],[⟨91,4,([]:O Head).length,some (([]:O Head).map Head.row)⟩]⟩) rfl (.F 1 rfl ?_)));refine .v (x:=.vc 0 (([]:O Head)++l).length) (gr (l:=[]) (l':=l) (row:=Head.row) underlying28 CX KF CY rfl (by rw[KG];decide) rfl rfl rfl rfl (by simpa using hk)) rfl ?_;refine .wv (st':=⟨[],[⟨91,4,(([]:O Head)++l).length,some ((([]:O Head)++l).map Head.row)⟩]⟩) rfl (.E 2 rfl (.R func45 results45 rfl ?_));exact ⟨[],[0],rfl,rfl,rfl,rfl,rfl,rfl,rfl,rfl,.ak _⟩
theorem wH {l r:O Head} (H:kW l=some r):aE prog 45 [ag 4 Head.row l] (·=ag 4 Head.row r):=.of (zK H).PX
theorem xm {l r:O ai} (H:p7 l=some r):aN prog 47 [.d (ag 4 ai.row l)] ⟨[],[]⟩ (QE (.vc 0 r.length) ⟨[],[⟨88,4,r.length,some (r.map ai.row)⟩]⟩):=by
 obtain ⟨hk,H⟩:=ar H;cases H;obtain ⟨i32,CX,KF,CY,KG⟩:=CN;refine aN.kT ?_;refine aN.enter func47 rfl ntmps47 rfl λS hS=>?_
 refine .F 8 rfl (.Ml underlying32 rfl rfl λb hb=>?_);refine .E 1 rfl (.cond rfl (λhc=>?_) (λhc=>?_))
 ·have hl:l=[]:=by simpa using hb hc
  subst hl;refine .E 4 rfl (.Re (i:=2) (e:=88) (sz:=4) rfl (.R func47 results47 rfl ?_));exact ⟨[],[0],rfl,rfl,rfl,rfl,rfl,rfl,rfl,rfl,.ak _⟩
 ·refine .F 3 rfl (.v (x:=.vc 0 ([]:O ai).length) (w6 ai.row underlying32 CX CY) rfl (.wv (st':=⟨[],[⟨88,4,([]:O ai).length,some (([]:O ai).map ai.row)⟩]⟩) rfl (.F 1 rfl ?_)));refine .v (x:=.vc 0 (([]:O ai)++l).length) (gr (l:=[]) (l':=l) (row:=ai.row) underlying32 CX KF CY rfl (by rw[KG];decide) rfl rfl rfl rfl (by simpa using hk)) rfl ?_;refine .wv (st':=⟨[],[⟨88,4,(([]:O ai)++l).length,some ((([]:O ai)++l).map ai.row)⟩]⟩) rfl (.E 2 rfl (.R func47 results47 rfl ?_));exact ⟨[],[0],rfl,rfl,rfl,rfl,rfl,rfl,rfl,rfl,.ak _⟩
theorem Fx {l r:O ai} (H:p7 l=some r):aE prog 47 [ag 4 ai.row l] (·=ag 4 ai.row r):=.of (xm H).PX
theorem yS {l r:O aA} (H:uy l=some r):aN prog 46 [.d (ag 12 aA.row l)] ⟨[],[]⟩ (QE (.vc 0 r.length) ⟨[],[⟨64,12,r.length,some (r.map aA.row)⟩]⟩):=by
 obtain ⟨hk,H⟩:=ar H;cases H;obtain ⟨i32,CX,KF,CY,KG⟩:=Bh;refine aN.kT ?_;refine aN.enter func46 rfl ntmps46 rfl λS hS=>?_
 refine .F 8 rfl (.Ml underlying31 rfl rfl λb hb=>?_);refine .E 1 rfl (.cond rfl (λhc=>?_) (λhc=>?_))
 ·have hl:l=[]:=by simpa using hb hc
  subst hl;refine .E 4 rfl (.Re (i:=2) (e:=64) (sz:=12) rfl (.R func46 results46 rfl ?_));exact ⟨[],[0],rfl,rfl,rfl,rfl,rfl,rfl,rfl,rfl,.ak _⟩
 ·refine .F 3 rfl (.v (x:=.vc 0 ([]:O aA).length) (w6 aA.row underlying31 CX CY) rfl (.wv (st':=⟨[],[⟨64,12,([]:O aA).length,some (([]:O aA).map aA.row)⟩]⟩) rfl (.F 1 rfl ?_)));refine .v (x:=.vc 0 (([]:O aA)++l).length) (gr (l:=[]) (l':=l) (row:=aA.row) underlying31 CX KF CY rfl (by rw[KG];decide) rfl rfl rfl rfl (by simpa using hk)) rfl ?_;refine .wv (st':=⟨[],[⟨64,12,(([]:O aA)++l).length,some ((([]:O aA)++l).map aA.row)⟩]⟩) rfl (.E 2 rfl (.R func46 results46 rfl ?_));exact ⟨[],[0],rfl,rfl,rfl,rfl,rfl,rfl,rfl,rfl,.ak _⟩
end Go.Proofs.YtimkfiaffohhkabGreatDoor
namespace Go.Proofs.YtimkfiaffohhkabGreatDoor
open Go.Shelf Go.Proofs.Tryz
def Tryz.KK:Go.Shelf.Ren:=⟨fun|6=>57|15=>104|14=>103|28=>156|29=>157|20=>148|21=>149|22=>150|23=>151|24=>152|25=>153|26=>154|27=>155|46=>177|47=>178|48=>179|49=>180|50=>181|57=>193|n=>n,fun|22=>32|24=>88|25=>119|3=>3|39=>178|0=>0|53=>222|55=>224|4=>4|46=>216|45=>215|50=>157|5=>5|9=>9|66=>241|70=>245|76=>257|77=>160|n=>n,fun|n=>n⟩
theorem Tryz.Mz:Go.Proofs.SlLaysF0.n6 prog Tryz.KK:={
 mixed:=by kernel_rfl
 f6:=⟨f57.name,by decide,func57.trans (zbn some (by kernel_rfl))⟩
 f14:=⟨f103.name,by decide,func103.trans (zbn some (by kernel_rfl))⟩
 f15:=func104.trans (zbn some (by kernel_rfl))
 f20:=⟨f148.name,by decide,func148.trans (zbn some (by kernel_rfl))⟩
 f21:=⟨f149.name,by decide,func149.trans (zbn some (by kernel_rfl))⟩
 f22:=⟨f150.name,by decide,func150.trans (zbn some (by kernel_rfl))⟩
 f23:=⟨f151.name,by decide,func151.trans (zbn some (by kernel_rfl))⟩
 f24:=⟨f152.name,by decide,func152.trans (zbn some (by kernel_rfl))⟩
 f25:=⟨f153.name,by decide,func153.trans (zbn some (by kernel_rfl))⟩
 f26:=⟨f154.name,by decide,func154.trans (zbn some (by kernel_rfl))⟩
 f27:=⟨f155.name,by decide,func155.trans (zbn some (by kernel_rfl))⟩
 f28:=func156.trans (zbn some (by kernel_rfl))
 f29:=func157.trans (zbn some (by kernel_rfl))
 f46:=⟨f177.name,by decide,func177.trans (zbn some (by kernel_rfl))⟩
 f47:=func178.trans (zbn some (by kernel_rfl))
 f48:=func179.trans (zbn some (by kernel_rfl))
 f49:=⟨f180.name,by decide,func180.trans (zbn some (by kernel_rfl))⟩
 f50:=⟨f181.name,by decide,func181.trans (zbn some (by kernel_rfl))⟩
 f57:=⟨f193.name,by decide,func193.trans (zbn some (by kernel_rfl))⟩
 t0:=underlying0
 a0:=Tryz.isAgg0
 z0:=Tryz.sizeOf0
 v0:=Tryz.zeroValue0
 t3:=underlying3
 a3:=Tryz.isAgg3
 z3:=Tryz.sizeOf3
 v3:=Tryz.zeroValue3
 t4:=underlying4
 a4:=Tryz.isAgg4
 z4:=Tryz.sizeOf4
 v4:=Tryz.zeroValue4
 t5:=underlying5
 a5:=Tryz.isAgg5
 z5:=Tryz.sizeOf5
 v5:=Tryz.zeroValue5
 t9:=underlying9
 a9:=Tryz.isAgg9
 z9:=Tryz.sizeOf9
 v9:=Tryz.zeroValue9
 t22:=underlying32
 a22:=Tryz.isAgg32
 z22:=Tryz.sizeOf32
 v22:=Tryz.zeroValue32
 t25:=underlying119
 a25:=Tryz.isAgg119
 z25:=Tryz.sizeOf119
 v25:=Tryz.zeroValue119
 t39:=underlying178
 a39:=Tryz.isAgg178
 z39:=Tryz.sizeOf178
 v39:=Tryz.zeroValue178
 t45:=underlying215
 a45:=Tryz.isAgg215
 z45:=Tryz.sizeOf215
 v45:=Tryz.zeroValue215
 t46:=underlying216
 a46:=Tryz.isAgg216
 z46:=Tryz.sizeOf216
 v46:=Tryz.zeroValue216
 t50:=underlying157
 a50:=Tryz.isAgg157
 z50:=Tryz.sizeOf157
 v50:=Tryz.zeroValue157
 t53:=underlying222
 a53:=Tryz.isAgg222
 z53:=Tryz.sizeOf222
 v53:=Tryz.zeroValue222
 t55:=underlying224
 a55:=Tryz.isAgg224
 z55:=Tryz.sizeOf224
 v55:=Tryz.zeroValue224
 t66:=underlying241
 a66:=Tryz.isAgg241
 z66:=Tryz.sizeOf241
 v66:=Tryz.zeroValue241
 t70:=underlying245
 a70:=Tryz.isAgg245
 z70:=Tryz.sizeOf245
 v70:=Tryz.zeroValue245
 t76:=underlying257
 a76:=Tryz.isAgg257
 z76:=Tryz.sizeOf257
 v76:=Tryz.zeroValue257
 t77:=underlying160
 a77:=Tryz.isAgg160
 z77:=Tryz.sizeOf160
 v77:=Tryz.zeroValue160 }
def Tryz.KL:Go.Shelf.Ren:=⟨fun|4=>119|n=>n,fun|22=>27|25=>61|3=>3|4=>4|9=>9|20=>20|0=>0|n=>n,fun|n=>n⟩
theorem Tryz.MA:Go.Proofs.Lays8.n4 prog Tryz.KL:={
 mixed:=by kernel_rfl
 f4:=⟨f119.name,by decide,func119.trans (zbn some (by kernel_rfl))⟩
 t0:=underlying0
 a0:=Tryz.isAgg0
 z0:=Tryz.sizeOf0
 v0:=Tryz.zeroValue0
 t3:=underlying3
 a3:=Tryz.isAgg3
 z3:=Tryz.sizeOf3
 v3:=Tryz.zeroValue3
 t4:=underlying4
 a4:=Tryz.isAgg4
 z4:=Tryz.sizeOf4
 v4:=Tryz.zeroValue4
 t9:=underlying9
 a9:=Tryz.isAgg9
 z9:=Tryz.sizeOf9
 v9:=Tryz.zeroValue9
 t20:=underlying20
 a20:=Tryz.isAgg20
 z20:=Tryz.sizeOf20
 v20:=Tryz.zeroValue20
 t22:=underlying27
 a22:=Tryz.isAgg27
 z22:=Tryz.sizeOf27
 v22:=Tryz.zeroValue27 }
def Tryz.Fa:Go.Shelf.Ren:=⟨fun|156=>123|165=>170|166=>171|169=>172|240=>186|241=>187|276=>199|277=>200|n=>n,fun|31=>146|9=>9|3=>3|4=>4|0=>0|20=>20|72=>232|76=>236|70=>229|37=>230|75=>235|127=>250|164=>264|5=>5|80=>201|n=>n,fun|n=>n⟩
theorem Tryz.Qc:Go.Proofs.Lays.n156 prog Tryz.Fa:={
 mixed:=by kernel_rfl
 f156:=func123.trans (zbn some (by kernel_rfl))
 f165:=func170.trans (zbn some (by kernel_rfl))
 f166:=func171.trans (zbn some (by kernel_rfl))
 f169:=func172.trans (zbn some (by kernel_rfl))
 f240:=func186.trans (zbn some (by kernel_rfl))
 f241:=func187.trans (zbn some (by kernel_rfl))
 f276:=func199.trans (zbn some (by kernel_rfl))
 f277:=func200.trans (zbn some (by kernel_rfl))
 t0:=underlying0
 a0:=Tryz.isAgg0
 z0:=Tryz.sizeOf0
 v0:=Tryz.zeroValue0
 t3:=underlying3
 a3:=Tryz.isAgg3
 z3:=Tryz.sizeOf3
 v3:=Tryz.zeroValue3
 t4:=underlying4
 a4:=Tryz.isAgg4
 z4:=Tryz.sizeOf4
 v4:=Tryz.zeroValue4
 t9:=underlying9
 a9:=Tryz.isAgg9
 z9:=Tryz.sizeOf9
 v9:=Tryz.zeroValue9
 t20:=underlying20
 a20:=Tryz.isAgg20
 z20:=Tryz.sizeOf20
 v20:=Tryz.zeroValue20
 t31:=underlying146
 a31:=Tryz.isAgg146
 z31:=Tryz.sizeOf146
 v31:=Tryz.zeroValue146
 t37:=underlying230
 a37:=Tryz.isAgg230
 z37:=Tryz.sizeOf230
 v37:=Tryz.zeroValue230
 t70:=underlying229
 a70:=Tryz.isAgg229
 z70:=Tryz.sizeOf229
 v70:=Tryz.zeroValue229
 t72:=underlying232
 a72:=Tryz.isAgg232
 z72:=Tryz.sizeOf232
 v72:=Tryz.zeroValue232
 t75:=underlying235
 a75:=Tryz.isAgg235
 z75:=Tryz.sizeOf235
 v75:=Tryz.zeroValue235
 t76:=underlying236
 a76:=Tryz.isAgg236
 z76:=Tryz.sizeOf236
 v76:=Tryz.zeroValue236
 t127:=underlying250
 a127:=Tryz.isAgg250
 z127:=Tryz.sizeOf250
 v127:=Tryz.zeroValue250
 t164:=underlying264
 a164:=Tryz.isAgg264
 z164:=Tryz.sizeOf264
 v164:=Tryz.zeroValue264 }
theorem Tryz.wi:Builder.Extra prog Tryz.Fa:={
 sizeBuilder:=by kernel_rfl
 liesBuilder:=by kernel_rfl
 t5:=underlying5
 a5:=Tryz.isAgg5
 z5:=Tryz.sizeOf5
 v5:=Tryz.zeroValue5
 infoByte:=by kernel_rfl
 cellsByte:=by kernel_rfl
 sizeByte:=by kernel_rfl
 neB5:=by decide }
open Go.RowKit in
theorem Tryz.strings_Join_none (a:J Addr) (c:Nat) (sep:ByteArray) (w:uC) :
  Calls prog 123 #[.slice a 0 c,.string sep] w λe w'=>e=.returned (.string ⟨#[]⟩)/\w'=w:=Any.strings_Join_none Tryz.Qc Tryz.wi a c sep w
open Go.RowKit in
theorem Tryz.strings_Join (bk o c:Nat) (xs:O ByteArray) (sep:ByteArray) (w:uC) (tJ:∀ (j:Nat) x,xs[j]?=some x->w.cell? ⟨bk,o+j,none⟩=some (.string x)) (Lu:bk<w.heap.size) (hN:xs.length<=140737488355328) (hcap:xs.length<=c) (hlen:(Lib.join (xs.map (·.data.toList)) sep.data.toList).length<=140737488355328) :
  Calls prog 123 #[.slice (some ⟨bk,o,none⟩) xs.length c,.string sep] w λe w'=>e=.returned (.string ⟨(Lib.join (xs.map (·.data.toList)) sep.data.toList).toArray⟩)/\Below w.heap.size w w':=Any.strings_Join Tryz.Qc Tryz.wi bk o c xs sep w tJ Lu hN hcap hlen
def Tryz.MB:Go.Shelf.Ren:=⟨fun|122=>59|215=>105|n=>n,fun|3=>3|4=>4|n=>n,fun|n=>n⟩
theorem Tryz.VZ:Go.Proofs.Lays.n122 prog Tryz.MB:={
 mixed:=by kernel_rfl
 f122:=func59.trans (zbn some (by kernel_rfl))
 f215:=func105.trans (zbn some (by kernel_rfl))
 t3:=underlying3
 a3:=Tryz.isAgg3
 z3:=Tryz.sizeOf3
 v3:=Tryz.zeroValue3
 t4:=underlying4
 a4:=Tryz.isAgg4
 z4:=Tryz.sizeOf4
 v4:=Tryz.zeroValue4 }
open Go.RowKit in
theorem Tryz.cmp_Compare_int (x y:Int) (w:uC) :
  Calls prog 59 #[.int .i64 x,.int .i64 y] w λe w'=>e=.returned (.int .i64 (Lib.compareInt x y))/\w'=w:=Any.cmp_Compare_int Tryz.VZ x y w
def Tryz.KM:Go.Shelf.Ren:=⟨fun|171=>122|243=>169|246=>185|283=>195|284=>196|285=>197|286=>198|129=>157|317=>205|318=>206|319=>207|320=>208|337=>211|338=>212|n=>n,fun|3=>3|9=>9|2=>2|4=>4|171=>260|0=>0|53=>224|37=>230|5=>5|173=>262|212=>277|51=>222|20=>20|213=>278|46=>178|232=>279|233=>280|n=>n,fun|17=>0|18=>2|19=>3|n=>n⟩
theorem Tryz.TC:Go.Proofs.LaysM.n171 prog Tryz.KM:={
 mixed:=by kernel_rfl
 f129:=func157.trans (zbn some (by kernel_rfl))
 f171:=func122.trans (zbn some (by kernel_rfl))
 f243:=func169.trans (zbn some (by kernel_rfl))
 f246:=func185.trans (zbn some (by kernel_rfl))
 f283:=func195.trans (zbn some (by kernel_rfl))
 f284:=func196.trans (zbn some (by kernel_rfl))
 f285:=func197.trans (zbn some (by kernel_rfl))
 f286:=func198.trans (zbn some (by kernel_rfl))
 f317:=func205.trans (zbn some (by kernel_rfl))
 f318:=func206.trans (zbn some (by kernel_rfl))
 f319:=func207.trans (zbn some (by kernel_rfl))
 f320:=func208.trans (zbn some (by kernel_rfl))
 f337:=func211.trans (zbn some (by kernel_rfl))
 f338:=func212.trans (zbn some (by kernel_rfl))
 t0:=underlying0
 a0:=Tryz.isAgg0
 z0:=Tryz.sizeOf0
 v0:=Tryz.zeroValue0
 t2:=underlying2
 a2:=Tryz.isAgg2
 z2:=Tryz.sizeOf2
 v2:=Tryz.zeroValue2
 t3:=underlying3
 a3:=Tryz.isAgg3
 z3:=Tryz.sizeOf3
 v3:=Tryz.zeroValue3
 t4:=underlying4
 a4:=Tryz.isAgg4
 z4:=Tryz.sizeOf4
 v4:=Tryz.zeroValue4
 t5:=underlying5
 a5:=Tryz.isAgg5
 z5:=Tryz.sizeOf5
 v5:=Tryz.zeroValue5
 t9:=underlying9
 a9:=Tryz.isAgg9
 z9:=Tryz.sizeOf9
 v9:=Tryz.zeroValue9
 t20:=underlying20
 a20:=Tryz.isAgg20
 z20:=Tryz.sizeOf20
 v20:=Tryz.zeroValue20
 t37:=underlying230
 a37:=Tryz.isAgg230
 z37:=Tryz.sizeOf230
 v37:=Tryz.zeroValue230
 t46:=underlying178
 a46:=Tryz.isAgg178
 z46:=Tryz.sizeOf178
 v46:=Tryz.zeroValue178
 t51:=underlying222
 a51:=Tryz.isAgg222
 z51:=Tryz.sizeOf222
 v51:=Tryz.zeroValue222
 t53:=underlying224
 a53:=Tryz.isAgg224
 z53:=Tryz.sizeOf224
 v53:=Tryz.zeroValue224
 t171:=underlying260
 a171:=Tryz.isAgg260
 z171:=Tryz.sizeOf260
 v171:=Tryz.zeroValue260
 t173:=underlying262
 a173:=Tryz.isAgg262
 z173:=Tryz.sizeOf262
 v173:=Tryz.zeroValue262
 t212:=underlying277
 a212:=Tryz.isAgg277
 z212:=Tryz.sizeOf277
 v212:=Tryz.zeroValue277
 t213:=underlying278
 a213:=Tryz.isAgg278
 z213:=Tryz.sizeOf278
 t232:=underlying279
 a232:=Tryz.isAgg279
 z232:=Tryz.sizeOf279
 v232:=Tryz.zeroValue279
 t233:=underlying280
 a233:=Tryz.isAgg280
 z233:=Tryz.sizeOf280
 v233:=Tryz.zeroValue280
 g17:=by kernel_rfl
 g18:=by kernel_rfl
 g19:=by kernel_rfl
 i0:=by kernel_rfl
 i2:=by kernel_rfl
 i3:=by kernel_rfl
 i4:=by kernel_rfl
 i5:=by kernel_rfl
 i9:=by kernel_rfl
 i20:=by kernel_rfl
 i37:=by kernel_rfl
 i46:=by kernel_rfl
 i51:=by kernel_rfl
 i53:=by kernel_rfl
 i171:=by kernel_rfl
 i173:=by kernel_rfl
 i212:=by kernel_rfl
 i232:=by kernel_rfl
 i233:=by kernel_rfl
 m17:=by kernel_rfl
 m18:=by kernel_rfl
 m19:=by kernel_rfl }
open Go.RowKit Go.Sort Go.Lib in
theorem Tryz.strconv_Itoa (n:Int) (h0:-9223372036854775808<=n) (h1:n<=9223372036854775807) (w:uC) (htab:Lib.TabIs prog w "internal/strconv.uint64pow10" .u64 Lib.pow10Tab) :
  Calls prog 122 #[.int .i64 n] w λe w'=>e=.returned (.string ⟨(Lib.itoa n).toArray⟩)/\∃ k os,w'=grow (w.drewN k) os:=Any.strconv_Itoa Tryz.TC n h0 h1 w htab
end Go.Proofs.YtimkfiaffohhkabGreatDoor
namespace Go.Abs
open Go.RowKit
theorem EL.one {lim:Nat->Nat} {w:uC} {d:D} {vs:uD uB} (h:EL lim w [d] vs):∃ v,vs=#[v]/\dY lim w d v:=by
 obtain ⟨h1,h2⟩:=h
 match vs,h1 with
 | ⟨[v]⟩,_=>exact ⟨v,rfl,h2 0 d v rfl rfl⟩
theorem EL.two {lim:Nat->Nat} {w:uC} {d e:D} {vs:uD uB} (h:EL lim w [d,e] vs):∃ v u,vs=#[v,u]/\dY lim w d v/\dY lim w e u:=by
 obtain ⟨h1,h2⟩:=h
 match vs,h1 with
 | ⟨[v,u]⟩,_=>exact ⟨v,u,rfl,h2 0 d v rfl rfl,h2 1 e u rfl rfl⟩
theorem Hd (w:uC) (k:Nat) (os:uD Obj):Below w.heap.size w (Go.Sort.grow (w.drewN k) os) :=
 ⟨rfl,rfl,rfl,by simp [Go.Sort.grow],λb hb=>by
  show ((w.drewN k).heap++os)[b]?=_;rw[zdq (show b<(w.drewN k).heap.size from hb)];rfl⟩
theorem aE.lib {P:uG} {f:FuncId} {args:O D} {u:uB}
  (h:∀ lim w vs,zh w.heap.size w->EL lim w args vs->Calls P f vs w λe w'=>e=.returned u/\Below w.heap.size w w'):aE P f args (·=.ex u):=by
 intro lim w vs hg ha;refine (h lim w vs hg ha).mono ?_;rintro e w' ⟨rfl,hb⟩;exact ⟨u,.ex u,lim,rfl,rfl,.ex u,⟨hb.size,λ_ _=>zaq _,λb off mc _=>hb.cell (p:=⟨b,off,none⟩) mc⟩,hb,λ_ _=>rfl⟩
theorem O4 {lim:Nat->Nat} {w:uC} {xs:O (O uA)} {v:uB} (h:dY lim w (.sl 1 (xs.map rS)) v) :
  (∃ A c,v=.slice A 0 c/\xs=[])∨∃ b off c,v=.slice (some ⟨b,off,none⟩) xs.length c/\xs.length<=c/\b<w.heap.size/\∀ (j:Nat) x,xs[j]?=some x->w.cell? ⟨b,off+j,none⟩=some (.string ⟨x.toArray⟩):=by
 generalize hr:xs.map rS=rows at h;cases h with
 | nil _ A =>
  have:xs=[]:=by simpa using hr
  exact .inl ⟨A,0,rfl,this⟩
 | sl _ _ b off c hc s6 hx fN =>
  subst hr;rw[zcz] at *;by_cases h0:xs=[]
  ·subst h0;exact .inl ⟨_,c,rfl,rfl⟩
  ·refine .inr ⟨b,off,c,rfl,hc,?_,λj x hj=>?_⟩
   ·have hl:0<xs.length:=zdc.2 h0;obtain ⟨_,u,hu,_⟩:=hx 0 (by omega);exact World.block_lt_of_cell? w _ hu
   ·have Ip:=(zae.1 hj).1;obtain ⟨_,u,hu,_⟩:=hx j (by omega);have:=fN j 0 (rS x) (.ex (.string ⟨x.toArray⟩)) u (by rw[zbe,hj];rfl) rfl (by rw[Nat.mul_one,zdp];exact hu);rw[hu,xP this]
end Go.Abs
namespace Go.Proofs.YtimkfiaffohhkabGreatDoor
open Go.RowKit Go.Abs Go.Lib Go.Sort Go.Shelf Go.Proofs.Tryz
def Br (l:List ai) (i:Int):ai:=match l.find? (λr=>decide (r.index=i)) with
 | some r=>r
 | none=>⟨0,0,i,0⟩
theorem Fb (l:O ai) (i:Int):(Br l i).index=i:=by
 unfold Br;split
 ·rename_i r h;simpa using List.find?_some h
 ·rfl
theorem Jx:∀ {l:O ai},(l.map (·.index)).Nodup->∀ {r:ai},r∈l->Br l r.index=r
 | x::l,hn,r,hr=>by
  rw[zao,zcb] at hn;unfold Br;rcases zan.1 hr with rfl|hr
  ·rw[List.find?_cons_of_pos (by simp)]
  ·rw[List.find?_cons_of_neg (by
    simp;intro he;exact hn.1 (by rw[he];exact zcd hr))]
   have:=Jx hn.2 hr;unfold Br at this;exact this
def AR (l:O ai) (i:Int):O uB:=ai.bM (Br l i)
theorem He (l:O ai) (i:Int):(AR l i).length=4:=rfl
theorem TD (l:O ai) (i:Int):∀ v∈AR l i,v.oneCell'=true:=by
 intro v hv;simp only[AR,ai.bM,zan,zep,or_false] at hv;rcases hv with rfl|rfl|rfl|rfl <;> rfl
theorem ZJ (x y:Int):ltOf (λx y:Int=>Lib.compareInt x y) x y=decide (x<y):=by
 unfold ltOf Lib.compareInt;by_cases h1:x<y
 ·simp [h1]
 ·by_cases h2:y<x <;> simp [h1,h2]
theorem swoI:SWO (ltOf λx y:Int=>Lib.compareInt x y) where
 irrefl x:=by rw[ZJ];simp
 trans x y z h1 h2:=by rw[ZJ] at *;simp at *;omega
 ntrans x y z h1 h2:=by rw[ZJ] at *;simp at *;omega
theorem TE (x y:ai) (W:uC):Calls prog 58 #[.agg (ai.bM x).toArray,.agg (ai.bM y).toArray] W λe w'=>e=.returned (.int .i64 (Lib.compareInt x.index y.index))/\∃ q os',w'=grow (W.drewN q) os':=by
 have RC:=λW'=>Tryz.cmp_Compare_int x.index y.index W'
 unfold ai.bM;generalize Lib.compareInt x.index y.index=r at RC ⊢;go_enter func58,ntmps58
 go_wp2_with (go_at_call 59;refine (RC _).mono ?_;rintro e w' ⟨rfl,rfl⟩)
 go_ret;exact ⟨rfl,0,_,by rw[alloc_eq_grow,alloc_eq_grow,grow_grow];rfl⟩
theorem TF (l:O ai) (blk off size:Nat) (w:uC):CmpLays prog 58 #[] (AR l) 4 (λx y=>Lib.compareInt x y) blk off size w:=λ_ _ _ _ x y=>by
 have:=TE (Br l x) (Br l y);rw[Fb,Fb] at this;exact this _
theorem mg (f:Int->O uB) (hf:∀ i,(f i).length=4):∀ (is:O Int) (t:Nat),t<is.length*4->(is.flatMap f)[t]?=some ((f is[t / 4]!)[t % 4]!)
 | [],t,h=>by simp at h
 | a::is,t,h=>by
  rw[zem];by_cases ht:t<4
  ·have h4:=hf a;rw[zap (by omega),show t / 4=0 from by omega,show t % 4=t from by omega];rw[zag (by omega),zeb (f (a::is)[0]!) t (by rw[hf];omega)];rfl
  ·rw[zax (by rw[hf];omega),hf,mg f hf is (t-4) (by simp only[zad] at h;omega),show t / 4=(t-4) / 4+1 from by omega,show t % 4=(t-4) % 4 from by omega];have cT:(t-4) / 4<is.length:=by simp only[zad] at h;omega
   rw[zeb is _ cT,zeb (a::is) _ (by simp only[zad];omega)];rfl
theorem Hf (l:O ai) (is:O Int):(flatK (AR l) 4 is.toArray).toList=is.flatMap (AR l):=by
 have hl:(is.flatMap (AR l)).length=is.length*4:=by
  induction is with
  | nil=>rfl
  | cons a is ih=>rw[zem,zah,ih,He,zad];omega
 apply zck;intro t;by_cases ht:t<is.length*4
 ·rw[mg _ (He l) is t ht,zch,zbi (by simpa using ht)];have:=get_flatK (AR l) 4 is.toArray t (by simpa using ht);rw[zeb _ _ (by simpa using ht)] at this;rw[this];have cT:t / 4<is.length:=by omega
  rw[zeb is.toArray _ (by simpa using cT),zeb is _ cT];simp
 ·rw[zbq (by rw[zdb,size_flatK];simpa using ht),zbq (by rw[hl];omega)]
def qR (l:O ai):O uB:=l.flatMap ai.bM
theorem Av:∀ (l:O ai),(qR l).length=l.length*4
 | []=>rfl
 | r::l=>by
  have:=Av l;unfold qR at this ⊢;rw[zem,zah,this];simp only[ai.bM,zad,zas];omega
theorem En:∀ (l:O ai),(l.map ai.row).flatten=(qR l).map D.ex
 | []=>rfl
 | r::l=>by
  have:=En l;unfold qR at this ⊢;rw[zao,zez,this,zem,zce];rfl
theorem Hg {l ls:O ai} (h:∀ r,r∈ls->Br l r.index=r):(ls.map (·.index)).flatMap (AR l)=qR ls:=by
 unfold qR
 induction ls with
 | nil=>rfl
 | cons r ls ih =>
  rw[zao,zem,zem,ih (λx hx=>h x (zai _ hx))];unfold AR;rw[h r (zaj ..)]
theorem O5 {lim:Nat->Nat} {w:uC} (l:O ai):dF lim w 4 l.length (l.map ai.row) (qR l):=by
 refine ⟨by simp,λr hr=>?_,λi c u hc hu=>?_⟩
 ·obtain ⟨x,_,rfl⟩:=zcy.1 hr;rfl
 ·rw[En,zbe,hu] at hc;cases hc;refine ⟨.ex u,?_⟩;have hm:=zbj hu;unfold qR at hm;obtain ⟨r,_,hv⟩:=List.mem_flatMap.1 hm;simp only[ai.bM,zan,zep,or_false] at hv;rcases hv with rfl|rfl|rfl|rfl <;> rfl
theorem O6 {lim:Nat->Nat} {w:uC} {l:O ai} {n:Nat} {xs:O uB} (h:dF lim w 4 n (l.map ai.row) xs) (hx:xs.length=n*4):xs=qR l:=by
 have hn:n=l.length:=by have:=h.len;simpa using this.symm
 apply zck;intro i;by_cases hi:i<xs.length
 ·have hf:i<(qR l).length:=by rw[Av];omega
  have:=(h.rep i (.ex (qR l)[i]) xs[i] (by rw[En,zbe,zag hf];rfl) (zag hi)).1;rw[zag hi,zag hf,xP this]
 ·rw[zbq (by omega),zbq (by rw[Av];omega)]
theorem TG {w:uC} {g n:Nat} {cur:uD uB} {e:uE} {fr:Nat×Nat} (d:uD uB) (hb:w.heap[g]?=some (.cells cur e fr)):(putRow id (Sort.ahead w n) g 0 d).heap[g]?=some (.cells (Go.Sort.putCells id 0 d cur) e fr):=by
 simp [putRow,mapBlock,Sort.ahead,zfy,hb,onCells]
theorem RD {w:uC} {g n:Nat} (d:uD uB):w.grownBy (putRow id (Sort.ahead w n) g 0 d) (some g):=by
 refine ⟨rfl,rfl,rfl,by simp,λk hk fK=>?_⟩;have:g≠k:=λe=>fK (by rw[e])
 simp [putRow,mapBlock,Sort.ahead,zfy,this]
theorem TH (cur:uD uB) (ts:O uB) (h:ts.length<=cur.size):(Go.Sort.putCells id 0 ts.toArray cur).toList.take ts.length=ts:=by
 apply zck;intro j;by_cases hj:j<ts.length
 ·rw[List.getElem?_take_of_lt hj,zch];simp [Go.Sort.putCells,hj,show j<cur.size by omega]
 ·rw[List.getElem?_take_eq_none (by omega),zbq (by omega)]
theorem Eo (x:ai):∀ (l:O ai),(Fs x l).Perm (x::l)
 | []=>.refl _
 | y::l=>by
  unfold Fs;split
  ·exact .refl _
  ·exact ((Eo x l).cons y).trans (.swap _ _ _)
theorem B3:∀ (l:O ai),(Jp l).Perm l
 | []=>.refl _
 | x::l=>(Eo x _).trans ((B3 l).cons x)
theorem MC (x:ai):∀ {l:O ai},l.Pairwise (λa b=>a.index<=b.index)->(Fs x l).Pairwise (λa b=>a.index<=b.index)
 | [],_=>by simp [Fs]
 | y::l,h=>by
  have h2:=zav.1 h;unfold Fs;split
  ·rename_i hx;refine zav.2 ⟨λz hz=>?_,h⟩;rcases zan.1 hz with rfl|hz
   ·exact hx
   ·have:=h2.1 z hz;omega
  ·rename_i hx;refine zav.2 ⟨λz hz=>?_,MC x h2.2⟩;rcases zan.1 ((Eo x l).mem_iff.1 hz) with rfl|hz
   ·omega
   ·exact h2.1 z hz
theorem Jy:∀ (l:O ai),(Jp l).Pairwise (λa b=>a.index<=b.index)
 | []=>.nil
 | x::l=>MC x (Jy l)
theorem Jz:∀ {l l':O Int},l.Pairwise (·<=·)->l'.Pairwise (·<=·)->l.Perm l'->l=l'
 | [],l',_,_,p=>p.nil_eq
 | a::l,[],_,_,p=>absurd p.length_eq (by simp)
 | a::l,b::l',h,h',p=>by
  have h1:=zav.1 h;have h2:=zav.1 h';have DN:a=b:=by
   have hb:b∈a::l:=p.mem_iff.2 (zaj ..);have ha:a∈b::l':=p.mem_iff.1 (zaj ..);rcases zan.1 hb with e|hb
   ·exact e.symm
   ·rcases zan.1 ha with e|ha
    ·exact e
    ·have:=h1.1 b hb;have:=h2.1 a ha;omega
  subst DN;rw[Jz h1.2 h2.2 ((List.perm_cons a).1 p)]
theorem Hh {l r:List ai} {n0:Nat} (H:ux l=some r) :
  aN prog 57 [.vc 0 n0,.d (.ex (.func (.func 58) #[] #[]))] ⟨[],[⟨88,4,n0,some (l.map ai.row)⟩]⟩
   (QE (.d (.dN [])) ⟨[],[⟨88,4,n0,some (r.map ai.row)⟩]⟩):=by
 obtain ⟨hk,H⟩:=ar H;injection H with hr;intro g w base vs hinv ha;obtain ⟨x,y,rfl,e1,e2⟩:∃ x y,vs=#[x,y]/\bP g w _ (.vc 0 n0) x/\bP g w _ (.d (.ex (.func (.func 58) #[] #[]))) y:=by
  obtain ⟨h1,h2⟩:=ha;obtain ⟨q⟩:=vs
  match q,h1 with
  | [x,y],_=>exact ⟨x,y,rfl,h2 0 _ _ rfl rfl,h2 1 _ _ rfl rfl⟩
 have N9:y=.func (.func 58) #[] #[]:=e2.bO;subst N9;obtain ⟨xs,s1,s2,s3⟩:=hinv.own 0 _ _ _ _ rfl;have N6:n0=l.length:=by have:=s3.len;simpa using this.symm
 by_cases YP:l=[]
 ·subst YP;have SA:r=[]:=by rw[←hr];rfl
  subst SA;have hx:∃ A c,x=.slice A 0 c:=by
   rcases ub hinv rfl e1 with h|⟨_,_,A,h⟩
   ·obtain ⟨A,c,hv⟩:=(jV s1).1;exact ⟨A,c,by rw[h,hv,N6];rfl⟩
   ·exact ⟨A,0,h⟩
  obtain ⟨A,c,rfl⟩:=hx;refine (AnyF.slices_SortFunc_none Tryz.Mz A c (.func (.func 58) #[] #[]) w).mono ?_;rintro e w' ⟨rfl,rfl⟩;exact ⟨_,_,_,g,rfl,⟨.ak _,rfl⟩,.d _ _ (.dN _ _ rfl (λi c u hi hu=>by simp at hu)),hinv,s5.refl _⟩
 ·have hx:x=g.tk 0:=by
   rcases ub hinv rfl e1 with h|⟨_,h,_⟩
   ·exact h
   ·exact absurd (by simpa using h) YP
  subst hx;have hlp:0<l.length:=zdc.2 YP;obtain ⟨b,c,hv⟩:=(jV s1).2 (by omega);have Vt:=O6 s3 s1.1;have VY:=s1;rw[hv] at VY;rcases VY.2 with ⟨h,_⟩|⟨b',c',cur,h,Cl,hg,Fm,AL,Ag,yZ⟩
  ·cases h
  cases h;have V0:∀ q,q∈l->Br l q.index=q:=λq hq=>Jx hk.2 hq
  have Xv:(flatK (AR l) 4 (l.map (·.index)).toArray).toList=qR l:=by rw[Hf,Hg V0]
  have hd:(l.map (·.index)).toArray.size=n0:=by simp [N6]
  have hH:HoldsK (AR l) 4 w b 0 (l.map (·.index)).toArray:=by
   intro j hj;have Ls:j<(qR l).length:=by rw[←Xv,zdb];exact hj
   refine ⟨?_,by simp [World.frozen?,hg]⟩;have h1:xs[j]?=some ((flatK (AR l) 4 (l.map (·.index)).toArray)[j]!):=by
    rw[Vt,←Xv,zch,zeb (flatK (AR l) 4 (l.map (·.index)).toArray) j hj,zbi hj]
   have:=s1.cells (g:=b) (by rw[hv];rfl) j _ h1;simp only[Addr.add_lit,zbu] at this ⊢;exact this
  have eg:∀ args w,(callFunc 58 args).run prog w=.ok (.enter 58 args) w:=enters_of func58 (by kernel_rfl) rfl;have RC:=AnyQ.slices_SortFunc_total Tryz.Mz 4 Tryz.isAgg88 Tryz.sizeOf88 (AR l) (He l) (TD l) (λx y:Int=>Lib.compareInt x y) swoI 58 #[] b 0 c (l.map (·.index)).toArray w eg (TF l b 0 _ w) hH (zay.1 hg).1 (by rw[hd];omega)
   (λx y h1 h2=>by rw[ZJ] at h1 h2;simp at h1 h2;omega)
  change Calls prog 57 _ _ _ at RC;rw[hd,←hv] at RC;refine RC.mono ?_;rintro e w' ⟨rfl,n,os,rfl⟩;have hms:((l.map (·.index)).toArray.toList.mergeSort λx y=>!(ltOf (λx y:Int=>Lib.compareInt x y)) y x)=r.map (·.index):=by
   refine Jz ?_ ?_ ?_
   ·have:=List.pairwise_mergeSort (le:=λx y:Int=>!(ltOf (λx y:Int=>Lib.compareInt x y)) y x) (λa b c h1 h2=>by simp only[ZJ,zdu,zct] at *;omega) (λa b=>by simp only[ZJ,zbv,zdu,zct];omega) (l.map (·.index)).toArray.toList
    refine this.imp (λh=>?_);rw[ZJ] at h;simpa using h
   ·rw[←hr];exact List.pairwise_map.2 (Jy l)
   ·refine (List.mergeSort_perm _ _).trans ?_;rw[←hr];exact ((B3 l).map _).symm
  rw[hms];have hrp:r.Perm l:=by rw[←hr];exact B3 l
  have SN:r.length=l.length:=hrp.length_eq;have hfl2:flatK (AR l) 4 (r.map (·.index)).toArray=(qR r).toArray:=by
   apply Array.toList_inj.1;rw[Hf,Hg (λq hq=>V0 q (hrp.mem_iff.1 hq))]
  unfold sortWorldK putRowK;rw[hfl2];have hfr:(qR r).length=n0*4:=by rw[Av,SN,N6]
  have Cu:(qR r).length<=cur.size:=by rw[hfr,Ag];omega
  have lP:(putRow id (Sort.ahead w n) b 0 (qR r).toArray).ownsRow base 88 4 (g.tk 0) n0 (qR r):=by
   rw[hv];refine ⟨hfr,.inr ⟨b,c,_,rfl,Cl,TG _ hg,Fm,AL,by simp [Go.Sort.putCells,Ag],?_⟩⟩;rw[←hfr];exact TH cur _ Cu
  have od:dF g.lim w 4 n0 (r.map ai.row) (qR r):=by
   have:=O5 (lim:=g.lim) (w:=w) r
   rwa [SN,←N6] at this
  obtain ⟨g',t1,t2,t3,t4⟩:=hinv.Q1 (tk:=0) (x':=⟨88,4,n0,some (r.map ai.row)⟩) rfl lP (.inl ⟨rfl,by simp [Sort.ahead],by rw[hv];exact RD _⟩)
   (λh=>by cases h) (λ_ _ _ _=>⟨rfl,zaq _,λ_=>rfl⟩) (λbE h=>by cases h;exact od)
  obtain ⟨i1,i2⟩:=t3.grow (g':=g') (Hd (putRow id (Sort.ahead w n) b 0 (qR r).toArray) 0 os) (λ_ _=>rfl) rfl rfl;exact ⟨_,_,_,g',rfl,⟨.ak _,rfl⟩,.d _ _ (.dN _ _ rfl (λi c u hi hu=>by simp at hu)),i1,((s5.refl _).step t4).step i2⟩
end Go.Proofs.YtimkfiaffohhkabGreatDoor
namespace Go.Proofs.YtimkfiaffohhkabGreatDoor
open Go.RowKit Go.Abs Go.Lib Go.Shelf Go.Proofs.Tryz
theorem Fy {n:Int} {r:List aa} (H:ya n=some r):aN prog 119 [.d (.ex (.slice none 0 0)),.d (.ex (.int .i64 n))] ⟨[],[]⟩ (QE (.vc 0 r.length) ⟨[],[⟨61,12,r.length,some (r.map aa.row)⟩]⟩):=by
 obtain ⟨hk,H⟩:=ar H;cases H;obtain ⟨inf,hi,hz,hs,hb⟩:=gI;intro g w base vs hinv ha;obtain ⟨x,y,rfl,e1,e2⟩:∃ x y,vs=#[x,y]/\bP g w _ (.d (.ex (.slice none 0 0))) x/\bP g w _ (.d (.ex (.int .i64 n))) y:=by
  obtain ⟨h1,h2⟩:=ha;obtain ⟨q⟩:=vs
  match q,h1 with
  | [x,y],_=>exact ⟨x,y,rfl,h2 0 _ _ rfl rfl,h2 1 _ _ rfl rfl⟩
 have e1':x=.slice none 0 0:=e1.bO;have N9:y=.int .i64 n:=e2.bO;subst e1';subst N9;obtain ⟨k,rfl⟩:∃ k:Nat,n=(k:Int):=⟨n.toNat,by omega⟩;by_cases Mu:k=0
 ·subst Mu;refine (Any8.slices_Grow_room Tryz.MA none 0 0 0 w (zaq _) (by omega) (by omega) (by omega)).mono ?_;rintro e w' ⟨rfl,rfl⟩;obtain ⟨g',q1,q2,q3,q4,q5⟩:=hinv.um ⟨61,12,0,some []⟩ (World.ownsRow_nil w' base _ _) (.inl ⟨rfl,rfl⟩) (λrows hr=>by cases hr;exact ⟨rfl,by simp,by simp⟩);refine ⟨_,_,_,g',rfl,⟨.ak _,rfl⟩,?_,q4,(s5.refl ⟨g,w',_,base⟩).step q5⟩;refine .vc _ _ _ (by simp) ⟨_,_,_,rfl⟩ λx' rows lO ho=>?_
  have:x'=⟨61,12,0,some []⟩:=by simpa [St.tok,zfb] using lO
  subst this;exact ⟨zaq _,λ_=>.inl q1.symm⟩
 ·have gq:0<inf.size:=by rw[hs];decide
  obtain ⟨z,hzz,EO⟩:∃ z,inf.zero=some z/\z.cells.size=12:=⟨_,hz,rfl⟩;refine (Any8.slices_Grow_grow Tryz.MA inf z hi hzz gq none 0 0 k [] w (zaq _) (by omega) (by
   rw[hb];omega) (by omega) (by simp) (λ_=>rfl) (λa h=>by cases h)).mono ?_
  rintro e w' ⟨rfl,rfl⟩;have AL:grownCap w (0+k) 0 61<=maxLen:=grownCap_le_maxLen w (0+k) 0 61 (by unfold maxLen;omega);have U6:=grownCap_ge w (0+k) 0 61;have lT:(w.drew.alloc (.cells (([]:List uB).toArray++Builtin.zeroCells z.cells (0+k-0)++Builtin.zeroCells z.cells (grownCap w (0+k) 0 61-(0+k))) 61)).ownsRow base 61 12 (.slice (some ⟨w.heap.size,0,none⟩) 0 (grownCap w (0+k) 0 61)) 0 [] :=
   ⟨by simp,.inr ⟨w.heap.size,_,_,rfl,hinv.base,heap_alloc_new w.drew _,zfv _,AL,by
    simp only[zfr,size_zeroCells,zbx,zas,EO];generalize grownCap w (0+k) 0 61=c at U6;omega,by simp⟩⟩
  obtain ⟨g',q1,q2,q3,q4,q5⟩:=hinv.um ⟨61,12,0,some []⟩ lT (.inr ⟨rfl,((Below.refl _ w).drew).alloc (zaq _) _⟩) (λrows hr=>by cases hr;exact ⟨rfl,by simp,by simp⟩);refine ⟨_,_,_,g',rfl,⟨.ak _,rfl⟩,?_,q4,(s5.refl ⟨g,w,_,base⟩).step q5⟩;refine .vc _ _ _ (by simp) ⟨_,_,_,rfl⟩ λx' rows lO ho=>?_
  have:x'=⟨61,12,0,some []⟩:=by simpa [St.tok,zfb] using lO
  subst this;exact ⟨zaq _,λ_=>.inl q1.symm⟩
end Go.Proofs.YtimkfiaffohhkabGreatDoor
namespace Go.Proofs.YtimkfiaffohhkabGreatDoor
open Go.RowKit Go.Abs
theorem ZK {w:uC} (h:zh w.heap.size w):Go.Lib.TabIs Tryz.prog w "internal/strconv.uint64pow10" .u64 Go.Lib.pow10Tab:=by
 obtain ⟨_,ty,fr,h2⟩:=h.1 (0,(Go.Lib.pow10Tab.map λz=>Value.int .u64 z).toArray) (by simp [GL]);have hn:Tryz.prog.globalNamed "internal/strconv.uint64pow10" = some 0:=by kernel_rfl
 unfold Go.Lib.TabIs World.var?;rw[hn];simp only[zac];simp only at h2;rw[h2]
theorem vB {n:Int} {r:O uA} (H:wy n=some r):aE Tryz.prog 122 [cI n] (·=cS r):=by
 obtain ⟨h,H⟩:=ar H;cases H;refine aE.lib λlim w vs hg ha=>?_
 obtain ⟨v,rfl,hv⟩:=ha.one;rw[xP hv];refine (Tryz.strconv_Itoa n h.1 h.2 w (ZK hg)).mono ?_;rintro e w' ⟨rfl,k,os,rfl⟩;exact ⟨rfl,Hd w k os⟩
theorem TI {xs:O (O uA)} {sep r:O uA} (H:OZ xs sep=some r):aE Tryz.prog 123 [ag 1 rS xs,cS sep] (·=cS r):=by
 obtain ⟨h,H⟩:=ar H;cases H;refine aE.lib λlim w vs hg ha=>?_
 obtain ⟨v,u,rfl,hv,hu⟩:=ha.two;rw[xP hu];rcases O4 hv with ⟨A,c,rfl,rfl⟩|⟨b,off,c,rfl,hc,hb,fN⟩
 ·exact (Tryz.strings_Join_none A c ⟨sep.toArray⟩ w).mono λe w' ⟨he,hw⟩=>⟨he,hw▸Below.refl _ _⟩
 ·have hm:(xs.map λx=>(⟨x.toArray⟩:ByteArray)).map (·.data.toList)=xs:=by simp [Function.comp_def]
  have:=Tryz.strings_Join b off c (xs.map λx=>(⟨x.toArray⟩:ByteArray)) ⟨sep.toArray⟩ w (λj x hj=>by
   rw[zbe] at hj;obtain ⟨y,hy,rfl⟩:=zcn.1 hj;exact fN j y hy) hb (by simp;omega) (by simpa using hc) (by rw[hm];simp;omega)
  rw[hm,zcz] at this;exact this
end Go.Proofs.YtimkfiaffohhkabGreatDoor
namespace Go.Proofs.YtimkfiaffohhkabGreatDoor
open Go.RowKit Go.Abs Go.Proofs.Tryz
theorem yl (a b:bc):et (bc.bM a) (bc.bM b)=(a==b):=by
 cases a;cases b;rw[zbl];simp [bc.bM,et,N8]
def tz:w7 prog 133 bc:=stKF bc.bM underlying133 Zu (λ_=>rfl) yl
theorem AS (a b:bt):et (bt.bM a) (bt.bM b)=(a==b):=by
 cases a;cases b;rw[zbl];simp [bt.bM,et,N8]
def wj:w7 prog 189 bt:=stKF bt.bM underlying189 Zv (λ_=>rfl) AS
theorem CZ {eR:Int} {r:(O Bool)} (H:si eR=some r):aE prog 77 [cI eR] (·=.agg [cB (nth r 0),cB (nth r 1),cB (nth r 2),cB (nth r 3),cB (nth r 4)]):=by
 obtain ⟨i4,Cn,Sg,Fz,VX⟩:=Mr;obtain ⟨i140,Hi,Hj,hs140,hb140⟩:=YZ;refine aE.bh func77 rfl ntmps77 rfl λS hS=>?_
 unfold si at H;refine .A 15 [.r 0] rfl trivial (.ite H rfl (λH=>?_) (λH=>?_))
 ·refine .A 5 [.d (.agg [cB true,cB false,cB false,cB true,cB true])] rfl (aJ.g (qE underlying140 Hi Hj Cn Fz rfl rfl)) (.R func77 results77 rfl ?_);cases H;exact .m rfl (.ak _)
 ·refine .E 5 rfl (.ite H rfl (λH=>?_) (λH=>?_))
  ·refine .A 5 [.d (.agg [cB true,cB false,cB false,cB false,cB false])] rfl (aJ.g (qE underlying140 Hi Hj Cn Fz rfl rfl)) (.R func77 results77 rfl ?_);cases H;exact .m rfl (.ak _)
  ·refine .E 5 rfl (.ite H rfl (λH=>?_) (λH=>?_))
   ·refine .A 5 [.d (.agg [cB true,cB true,cB false,cB true,cB false])] rfl (aJ.g (qE underlying140 Hi Hj Cn Fz rfl rfl)) (.R func77 results77 rfl ?_);cases H;exact .m rfl (.ak _)
   ·refine .iq (ι:=Bool) (λmM=>[(2,.ref 0 0),(3,.d (cI eR)),(13,.d (cB mM))]) (λmM=>⟨[.row 140 [.d (cB false),.d (cB false),.d (cB false),.d (cB false),.d (cB false)]],[]⟩) (λs=>lH eR s=some r) ?_ ?_
    ·rintro mM H;replace H:lH eR mM=some r:=H;unfold lH at H;refine .ite H rfl (λH=>?_) (λH=>?_)
     ·refine .A 5 [.d (.agg [cB false,cB true,cB true,cB false,cB false])] rfl (aJ.g (qE underlying140 Hi Hj Cn Fz rfl rfl)) (.R func77 results77 rfl ?_);cases H;exact .m rfl (.ak _)
     ·refine .iq (ι:=Bool) (λJr=>[(2,.ref 0 0),(3,.d (cI eR)),(17,.d (cB Jr))]) (λJr=>⟨[.row 140 [.d (cB false),.d (cB false),.d (cB false),.d (cB false),.d (cB false)]],[]⟩) (λs=>jI eR s=some r) ?_ ?_
      ·rintro Jr H;replace H:jI eR Jr=some r:=H;unfold jI at H;refine .ite H rfl (λH=>?_) (λH=>?_)
       ·refine .A 5 [.d (.agg [cB false,cB true,cB false,cB true,cB false])] rfl (aJ.g (qE underlying140 Hi Hj Cn Fz rfl rfl)) (.R func77 results77 rfl ?_);cases H;exact .m rfl (.ak _)
       ·refine .iq (ι:=Bool) (λJq=>[(2,.ref 0 0),(22,.d (cB Jq))]) (λJq=>⟨[.row 140 [.d (cB false),.d (cB false),.d (cB false),.d (cB false),.d (cB false)]],[]⟩) (λs=>lG s=some r) ?_ ?_
        ·rintro Jq H;replace H:lG Jq=some r:=H;unfold lG at H;refine .ite H rfl (λH=>?_) (λH=>?_)
         ·refine .A 5 [.d (.agg [cB true,cB false,cB false,cB false,cB true])] rfl (aJ.g (qE underlying140 Hi Hj Cn Fz rfl rfl)) (.R func77 results77 rfl ?_);cases H;exact .m rfl (.ak _)
         ·refine .A 7 [.d (.agg [cB false,cB true,cB false,cB false,cB false])] rfl (aJ.g (qE underlying140 Hi Hj Cn Fz rfl rfl)) (.R func77 results77 rfl ?_);cases H;exact .m rfl (.ak _)
        ·intro Vh;refine .E 5 rfl (.ite H rfl (λH=>?_) (λH=>?_))
         ·exact .E 1 rfl (.z (Vh (eR==14) H) rfl rfl)
         ·exact .E 4 rfl (.z (Vh (eR==15) H) rfl rfl)
      ·intro Co;refine .E 5 rfl (.ite H rfl (λH=>?_) (λH=>?_))
       ·exact .E 1 rfl (.z (Co (eR==7) H) rfl rfl)
       ·refine .E 5 rfl (.ite H rfl (λH=>?_) (λH=>?_))
        ·exact .E 1 rfl (.z (Co (eR==8) H) rfl rfl)
        ·exact .E 4 rfl (.z (Co (eR==9) H) rfl rfl)
    ·intro pA;refine .E 5 rfl (.ite H rfl (λH=>?_) (λH=>?_))
     ·exact .E 1 rfl (.z (pA (eR==5) H) rfl rfl)
     ·exact .E 4 rfl (.z (pA (eR==6) H) rfl rfl)
theorem Hk {AP:Int} {r:Bool} (H:zF AP=some r):aE prog 124 [cI AP] (·=cB r):=by
 refine aE.bh func124 rfl ntmps124 rfl λS hS=>?_
 unfold zF at H;refine .A 14 [] rfl ⟨rfl,rfl⟩ (.R func124 results124 rfl ?_);cases H;exact .m rfl (.ak _)
theorem KN {bV:O uA} {r:Bool} (H:vh bV=some r):aE prog 125 [cS bV] (·=cB r):=by
 refine aE.bh func125 rfl ntmps125 rfl λS hS=>?_
 unfold vh at H;obtain ⟨cH,dj,H⟩:=ck2 H;refine .A 26 [.i (bV.length:Int),.i (bV.length:Int),.c (nth bV (Int.toNat (0))),.b (decide ((nth bV (Int.toNat (0)))<97)),.c (nth bV (Int.toNat (0))),.b (decide ((nth bV (Int.toNat (0))) > 122))] rfl ⟨rfl,λhg=>aJ.g (J5 (a:=nth bV (Int.toNat (0))) (b:=122) rfl rfl),rfl,λhg=>aJ.g (pV (i:=0) underlying9 rfl rfl (dj hg)),rfl,rfl,λhg=>aJ.g (J4 (a:=nth bV (Int.toNat (0))) (b:=97) rfl rfl),rfl,λhg=>aJ.g (pV (i:=0) underlying9 rfl rfl (cH hg)),rfl,rfl,rfl,λhg=>aJ.g (r5 underlying9 rfl),rfl,aJ.g (r5 underlying9 rfl)⟩ (.ite H rfl (λH=>?_) (λH=>?_))
 ·refine .E 4 rfl (.R func125 results125 rfl ?_);cases H;exact .m rfl (.ak _)
 ·refine .E 7 rfl (.lp H (λbF=>[(0,.d (cS bV)),(3,.d (cI bF))]) (λbF=>⟨[],[]⟩) (.k2 rfl rfl (.nil)) rfl ?_);rintro bF q1 H bC;unfold p8 at H;refine .A 8 [.i (bV.length:Int)] rfl (aJ.g (r5 underlying9 rfl)) (.ite H rfl (λH=>?_) (λH=>?_))
  ·obtain ⟨eH,iG,ly,pN,H⟩:=ck4 H;refine .B 25 [.c (nth bV bF.toNat),.b (decide ((nth bV bF.toNat)<97)),.c (nth bV bF.toNat),.b (decide ((nth bV bF.toNat) > 122)),.c (nth bV bF.toNat),.b (decide ((nth bV bF.toNat)<48)),.c (nth bV bF.toNat),.b (decide ((nth bV bF.toNat) > 57))] rfl ⟨λhg=>aJ.g (J5 (a:=nth bV bF.toNat) (b:=57) rfl rfl),rfl,λhg=>aJ.g (pV (i:=bF) underlying9 rfl rfl (pN hg)),rfl,rfl,rfl,λhg=>aJ.g (J4 (a:=nth bV bF.toNat) (b:=48) rfl rfl),rfl,λhg=>aJ.g (pV (i:=bF) underlying9 rfl rfl (ly hg)),rfl,rfl,rfl,λhg=>aJ.g (J5 (a:=nth bV bF.toNat) (b:=122) rfl rfl),rfl,λhg=>aJ.g (pV (i:=bF) underlying9 rfl rfl (iG hg)),rfl,rfl,aJ.g (J4 (a:=nth bV bF.toNat) (b:=97) rfl rfl),aJ.g (pV (i:=bF) underlying9 rfl rfl eH)⟩ (.kC (env':=[(43,_),(47,_)]) rfl rfl rfl ⟨.inr (.inl rfl),⟨.inr (.inr ⟨_,_,rfl,rfl⟩),trivial⟩⟩ rfl (λhg=>aJ.g (DT rfl rfl rfl)) ?_);obtain ⟨vR,H⟩:=ar H;refine .A 8 [.c (nth bV bF.toNat),.b ((nth bV bF.toNat) != 45)] rfl ⟨rfl,λhg=>aJ.g (Yl (a:=nth bV bF.toNat) (b:=45) rfl rfl),rfl,λhg=>aJ.g (pV (i:=bF) underlying9 rfl rfl (vR hg)),rfl,rfl,rfl⟩ (.ite H rfl (λH=>?_) (λH=>?_))
   ·refine .E 4 rfl (.R func125 results125 rfl ?_);cases H;cases bC;exact .m rfl (.ak _)
   ·obtain ⟨AT,H⟩:=ar H;refine .A 7 [.i (bF+1)] rfl (aL rfl rfl AT) ?_;cases H;exact .z bC rfl rfl
  ·refine .E 5 rfl (.R func125 results125 rfl ?_);cases H;cases bC;exact .m rfl (.ak _)
theorem wI {bV:O uA} {r:Bool} (H:ou bV=some r):aE prog 126 [cS bV] (·=cB r):=by
 refine aE.bh func126 rfl ntmps126 rfl λS hS=>?_
 unfold ou at H;refine .E 9 rfl (.bW (ι:=Unit) (λ_=>[(0,.d (cS bV))]) (λ_=>⟨[],[]⟩) (λs=>ot bV=some r) ?_ ?_)
 ·rintro _ H;replace H:ot bV=some r:=H;unfold ot at H;refine .A 12 [.i (bV.length:Int),.i (bV.length:Int)] rfl ⟨rfl,rfl,λhg=>aJ.g (r5 underlying9 rfl),rfl,aJ.g (r5 underlying9 rfl)⟩ (.R func126 results126 rfl ?_);cases H;exact .m rfl (.ak _)
 ·intro pA gn;refine .lp H (λbF=>[(0,.d (cS bV)),(3,.d (cI bF))]) (λbF=>⟨[],[]⟩) (.k2 rfl rfl (.nil)) rfl ?_;rintro bF q1 H bC;unfold rf at H;refine .A 8 [.i (bV.length:Int)] rfl (aJ.g (r5 underlying9 rfl)) (.ite H rfl (λH=>?_) (λH=>?_))
  ·obtain ⟨cH,dj,H⟩:=ck2 H;refine .A 16 [.c (nth bV bF.toNat),.b (decide ((nth bV bF.toNat)<48)),.c (nth bV bF.toNat),.b (decide ((nth bV bF.toNat) > 57))] rfl ⟨rfl,λhg=>aJ.g (J5 (a:=nth bV bF.toNat) (b:=57) rfl rfl),rfl,λhg=>aJ.g (pV (i:=bF) underlying9 rfl rfl (dj hg)),rfl,rfl,aJ.g (J4 (a:=nth bV bF.toNat) (b:=48) rfl rfl),aJ.g (pV (i:=bF) underlying9 rfl rfl cH)⟩ (.ite H rfl (λH=>?_) (λH=>?_))
   ·refine .E 4 rfl (.R func126 results126 rfl ?_);cases H;cases bC;exact .m rfl (.ak _)
   ·obtain ⟨eH,H⟩:=ar H;refine .A 7 [.i (bF+1)] rfl (aL rfl rfl eH) ?_;cases H;exact .z bC rfl rfl
  ·refine .E 1 rfl ?_;obtain ⟨q0,H9,n5⟩:=cn H;clear H;cases n5;cases bC;have H:=H9;exact .z (gn () H) rfl rfl
theorem IE {Tr:Event} {r:Bool} (H:te Tr=some r):aE prog 127 [.agg (Event.row Tr)] (·=cB r):=by
 refine aE.bh func127 rfl ntmps127 rfl λS hS=>?_
 unfold te at H;refine .A 12 [.r 0] rfl trivial (.ite H rfl (λH=>?_) (λH=>?_))
 ·refine .A 12 [] rfl ⟨rfl,rfl,rfl⟩ (.R func127 results127 rfl ?_);cases H;exact .m rfl (.ak _)
 ·refine .E 8 rfl (.ite H rfl (λH=>?_) (λH=>?_))
  ·refine .A 12 [] rfl ⟨rfl,rfl,rfl⟩ (.R func127 results127 rfl ?_);cases H;exact .m rfl (.ak _)
  ·refine .A 13 [] rfl ⟨rfl,rfl,rfl⟩ (.R func127 results127 rfl ?_);cases H;exact .m rfl (.ak _)
theorem KO {v0:Event} {v1 r:Int} (H:vi v0 v1=some r):aE prog 76 [.agg (Event.row v0),cI v1] (·=cI r):=by
 obtain ⟨i4,Cn,Sg,Fz,VX⟩:=Mr;refine aE.bh func76 rfl ntmps76 rfl λS hS=>?_
 unfold vi at H;refine .A 17 [.r 0] rfl ⟨rfl,rfl,rfl⟩ (.ite H rfl (λH=>?_) (λH=>?_))
 ·refine .E 4 rfl (.R func76 results76 rfl ?_);cases H;exact .m rfl (.ak _)
 ·refine .A 13 [] rfl ⟨rfl,rfl,rfl⟩ (.ite H rfl (λH=>?_) (λH=>?_))
  ·refine .E 4 rfl (.R func76 results76 rfl ?_);cases H;exact .m rfl (.ak _)
  ·refine .E 9 rfl (.ite H rfl (λH=>?_) (λH=>?_))
   ·refine .E 4 rfl (.R func76 results76 rfl ?_);cases H;exact .m rfl (.ak _)
   ·obtain ⟨y1,cV,H⟩:=ae H;refine .B 28 [.d (.agg [cB (nth y1 0),cB (nth y1 1),cB (nth y1 2),cB (nth y1 3),cB (nth y1 4)]),.r 1,.g (.ref 1 0),.g (.ref 1 1)] rfl ⟨rfl,rfl,rfl,rfl,rfl,λhg=>aJ.g (pU (m:=1) (sz:=1) underlying140 ⟨_,Cn,Fz⟩ rfl rfl rfl (by decide)),rfl,rfl,rfl,aJ.g (pU (m:=0) (sz:=1) underlying140 ⟨_,Cn,Fz⟩ rfl rfl rfl (by decide)),aB (en 0 rfl) rfl rfl (CZ cV)⟩ (.kC (env':=[(41,_),(44,_)]) rfl rfl rfl ⟨.inr (.inl rfl),⟨.inr (.inr ⟨_,_,rfl,rfl⟩),trivial⟩⟩ rfl (λhg=>aJ.g (eD rfl rfl rfl)) (.B 9 [.g (.ref 1 2)] rfl ⟨rfl,rfl,rfl,rfl,rfl,λhg=>aJ.g (pU (m:=2) (sz:=1) underlying140 ⟨_,Cn,Fz⟩ rfl rfl rfl (by decide)),rfl⟩ (.kC (env':=[(51,_),(54,_)]) rfl rfl rfl ⟨.inr (.inl rfl),⟨.inr (.inr ⟨_,_,rfl,rfl⟩),trivial⟩⟩ rfl (λhg=>aJ.g (eD rfl rfl rfl)) (.B 9 [.g (.ref 1 3)] rfl ⟨rfl,rfl,rfl,rfl,rfl,λhg=>aJ.g (pU (m:=3) (sz:=1) underlying140 ⟨_,Cn,Fz⟩ rfl rfl rfl (by decide)),rfl⟩ (.kC (env':=[(61,_),(64,_)]) rfl rfl rfl ⟨.inr (.inl rfl),⟨.inr (.inr ⟨_,_,rfl,rfl⟩),trivial⟩⟩ rfl (λhg=>aJ.g (eD rfl rfl rfl)) (.B 9 [.g (.ref 1 4)] rfl ⟨rfl,rfl,rfl,rfl,rfl,λhg=>aJ.g (pU (m:=4) (sz:=1) underlying140 ⟨_,Cn,Fz⟩ rfl rfl rfl (by decide)),rfl⟩ (.kC (env':=[(71,_),(74,_)]) rfl rfl rfl ⟨.inr (.inl rfl),⟨.inr (.inr ⟨_,_,rfl,rfl⟩),trivial⟩⟩ rfl (λhg=>aJ.g (eD rfl rfl rfl)) (.A 2 [] rfl rfl (.ite H rfl (λH=>?_) (λH=>?_))))))))))
    ·refine .E 4 rfl (.R func76 results76 rfl ?_);cases H;exact .m rfl (.ak _)
    ·obtain ⟨y2,fY,H⟩:=ae H;obtain ⟨y3,kz,H⟩:=ae H;refine .B 20 [.g (.ref 1 0),.b y2,.g (.ref 1 1),.b y3] rfl ⟨rfl,λhg=>aB (en 1 rfl) rfl rfl (Hk (bu kz hg)),rfl,rfl,rfl,rfl,λhg=>aJ.g (pU (m:=1) (sz:=1) underlying140 ⟨_,Cn,Fz⟩ rfl rfl rfl (by decide)),rfl,rfl,λhg=>aB (en 1 rfl) rfl rfl (Hk (bu fY hg)),rfl,rfl,aJ.g (pU (m:=0) (sz:=1) underlying140 ⟨_,Cn,Fz⟩ rfl rfl rfl (by decide))⟩ (.kC (env':=[(88,_),(92,_)]) rfl rfl rfl ⟨.inr (.inl rfl),⟨.inr (.inr ⟨_,_,rfl,rfl⟩),trivial⟩⟩ rfl (λhg=>aJ.g (eD rfl rfl rfl)) (.A 2 [] rfl rfl (.ite H rfl (λH=>?_) (λH=>?_))))
     ·refine .E 4 rfl (.R func76 results76 rfl ?_);cases H;exact .m rfl (.ak _)
     ·obtain ⟨y4,pS,H⟩:=ae H;refine .B 20 [.g (.ref 1 3),.b y4] rfl ⟨rfl,rfl,rfl,rfl,rfl,rfl,rfl,λhg=>aB (en 2 rfl) rfl rfl (KN (bu pS hg)),rfl,rfl,aJ.g (pU (m:=3) (sz:=1) underlying140 ⟨_,Cn,Fz⟩ rfl rfl rfl (by decide))⟩ (.kC (env':=[(107,_),(110,_)]) rfl rfl rfl ⟨.inr (.inl rfl),⟨.inr (.inr ⟨_,_,rfl,rfl⟩),trivial⟩⟩ rfl (λhg=>aJ.g (eD rfl rfl rfl)) (.B 4 [] rfl ⟨rfl,rfl,rfl⟩ (.kC (env':=[(112,_),(115,_)]) rfl rfl rfl ⟨.inr (.inl rfl),⟨.inr (.inr ⟨_,_,rfl,rfl⟩),trivial⟩⟩ rfl (λhg=>aJ.g (eD rfl rfl rfl)) (.A 2 [] rfl rfl (.ite H rfl (λH=>?_) (λH=>?_))))))
      ·refine .E 4 rfl (.R func76 results76 rfl ?_);cases H;exact .m rfl (.ak _)
      ·obtain ⟨y5,xn,H⟩:=ae H;refine .A 13 [.g (.ref 1 2),.b y5] rfl ⟨rfl,rfl,λhg=>aB (en 3 rfl) rfl rfl (wI (bu xn hg)),rfl,rfl,aJ.g (pU (m:=2) (sz:=1) underlying140 ⟨_,Cn,Fz⟩ rfl rfl rfl (by decide))⟩ (.ite H rfl (λH=>?_) (λH=>?_))
       ·refine .E 4 rfl (.R func76 results76 rfl ?_);cases H;exact .m rfl (.ak _)
       ·obtain ⟨y6,C0,H⟩:=ae H;refine .A 12 [.g (.ref 1 4),.b y6] rfl ⟨rfl,rfl,λhg=>aB (en 4 rfl) rfl rfl (IE (bu C0 hg)),rfl,aJ.g (pU (m:=4) (sz:=1) underlying140 ⟨_,Cn,Fz⟩ rfl rfl rfl (by decide))⟩ (.ite H rfl (λH=>?_) (λH=>?_))
        ·refine .E 4 rfl (.R func76 results76 rfl ?_);cases H;exact .m rfl (.ak _)
        ·refine .E 5 rfl (.R func76 results76 rfl ?_);cases H;exact .m rfl (.ak _)
theorem tS {fD:aj} {wz r:Int} (H:lI fD wz=some r):aE prog 80 [.agg (aj.row fD),cI wz] (·=cI r):=by
 refine aE.bh func80 rfl ntmps80 rfl λS hS=>?_
 unfold lI at H;refine .A 11 [.r 0] rfl trivial (.lp H (λaI=>[(1,.d (cI wz)),(2,.ref 0 0),(5,.d (cI aI))]) (λaI=>⟨[aj.o97 fD],[]⟩) (.k3 rfl rfl rfl (.nil)) rfl ?_);rintro aI q1 H bC;unfold mj at H;refine .A 9 [.i (fD.aO.length:Int)] rfl (VT.n rfl rfl) (.ite H rfl (λH=>?_) (λH=>?_))
 ·obtain ⟨cH,H⟩:=ar H;refine .A 14 [.d (.ro (aq.pY (nth fD.aO aI.toNat)))] rfl (VT.ix rfl rfl rfl cH) (.ite H rfl (λH=>?_) (λH=>?_))
  ·refine .E 5 rfl (.R func80 results80 rfl ?_);cases H;cases bC;exact .m rfl (.ak _)
  ·obtain ⟨dj,H⟩:=ar H;refine .A 7 [.i (aI+1)] rfl (aL rfl rfl dj) ?_;cases H;exact .z bC rfl rfl
 ·refine .E 5 rfl (.R func80 results80 rfl ?_);cases H;cases bC;exact .m rfl (.ak _)
theorem tA {fD:aj} {wz r:Int} (H:ph fD wz=some r):aE prog 81 [.agg (aj.row fD),cI wz] (·=cI r):=by
 refine aE.bh func81 rfl ntmps81 rfl λS hS=>?_
 unfold ph at H;refine .A 11 [.r 0] rfl trivial (.lp H (λaI=>[(1,.d (cI wz)),(2,.ref 0 0),(5,.d (cI aI))]) (λaI=>⟨[aj.o97 fD],[]⟩) (.k3 rfl rfl rfl (.nil)) rfl ?_);rintro aI q1 H bC;unfold rh at H;refine .A 9 [.i (fD.bp.length:Int)] rfl (G1.n rfl rfl) (.ite H rfl (λH=>?_) (λH=>?_))
 ·obtain ⟨cH,H⟩:=ar H;refine .A 14 [.d (.ro (Sub.row (nth fD.bp aI.toNat)))] rfl (G1.ix rfl rfl rfl cH) (.ite H rfl (λH=>?_) (λH=>?_))
  ·refine .E 5 rfl (.R func81 results81 rfl ?_);cases H;cases bC;exact .m rfl (.ak _)
  ·obtain ⟨dj,H⟩:=ar H;refine .A 7 [.i (aI+1)] rfl (aL rfl rfl dj) ?_;cases H;exact .z bC rfl rfl
 ·refine .E 5 rfl (.R func81 results81 rfl ?_);cases H;cases bC;exact .m rfl (.ak _)
theorem s4 {fD:aj} {wz:Int} {r:Bool} (H:mN fD wz=some r):aE prog 129 [.agg (aj.row fD),cI wz] (·=cB r):=by
 refine aE.bh func129 rfl ntmps129 rfl λS hS=>?_
 unfold mN at H;refine .A 11 [.r 0] rfl trivial (.lp H (λaI=>[(1,.d (cI wz)),(2,.ref 0 0),(5,.d (cI aI))]) (λaI=>⟨[aj.o97 fD],[]⟩) (.k3 rfl rfl rfl (.nil)) rfl ?_);rintro aI q1 H bC;unfold ov at H;refine .A 9 [.i (fD.ended.length:Int)] rfl (Bl.n rfl rfl) (.ite H rfl (λH=>?_) (λH=>?_))
 ·obtain ⟨cH,H⟩:=ar H;refine .A 13 [.d (.ro (rI (nth fD.ended aI.toNat)))] rfl (Bl.ix rfl rfl rfl cH) (.ite H rfl (λH=>?_) (λH=>?_))
  ·refine .E 4 rfl (.R func129 results129 rfl ?_);cases H;cases bC;exact .m rfl (.ak _)
  ·obtain ⟨dj,H⟩:=ar H;refine .A 7 [.i (aI+1)] rfl (aL rfl rfl dj) ?_;cases H;exact .z bC rfl rfl
 ·refine .E 5 rfl (.R func129 results129 rfl ?_);cases H;cases bC;exact .m rfl (.ak _)
theorem KP {fD:aj} {wz:Int} {r:Bool} (H:vj fD wz=some r):aE prog 128 [.agg (aj.row fD),cI wz] (·=cB r):=by
 refine aE.bh func128 rfl ntmps128 rfl λS hS=>?_
 unfold vj at H;refine .A 11 [.r 0] rfl trivial ?_;obtain ⟨n1,H⟩:=sb H;refine .loop (ι:=Nat×(Int)) (λ⟨_,aI⟩=>[(1,.d (cI wz)),(2,.ref 0 0),(5,.d (cI aI))]) (λ⟨_,aI⟩=>⟨[aj.o97 fD],[]⟩) (λp=>iter (λs=>lJ fD wz s) p.1 p.2=some r) (·.1) (n1,0) H (.k3 rfl rfl rfl (.nil)) rfl ?_
 rintro ⟨m1,aI⟩ HI MD;obtain ⟨n1,q1,w8,H,bC⟩:=sd HI;clear HI;replace H:lJ fD wz aI=some q1:=H;unfold lJ at H;refine .A 9 [.i (fD.bp.length:Int)] rfl (G1.n rfl rfl) ?_;refine .ite H rfl (λH=>?_) (λH=>?_)
 ·obtain ⟨cH,dj,H⟩:=ck2 H;obtain ⟨y1,cV,H⟩:=ae H;refine .A 26 [.p 19,.d (.ro (Sub.row (nth fD.bp aI.toNat))),.d (.ro (Sub.row (nth fD.bp aI.toNat))),.b y1] rfl ⟨rfl,rfl,λhg=>aB (en 5 rfl) rfl rfl (s4 (bu cV hg)),rfl,rfl,rfl,rfl,λhg=>G1.ix rfl rfl rfl (dj hg),rfl,rfl,rfl,G1.ix rfl rfl rfl cH,(show cP _ _=true by kernel_rfl)⟩ ?_;refine .ite H rfl (λH=>?_) (λH=>?_)
  ·refine .E 4 rfl ?_;refine .R func128 results128 rfl ?_;cases H;cases bC;exact .m rfl (.ak _)
  ·obtain ⟨eH,H⟩:=ar H;refine .A 7 [.i (aI+1)] rfl (aL rfl rfl eH) ?_;cases H;exact .z (MD (n1,(aI+1)) bC w8) rfl rfl
 ·refine .E 5 rfl ?_;refine .R func128 results128 rfl ?_;cases H;cases bC;exact .m rfl (.ak _)
theorem C1 {fD:aj} {ue:Event} {r:Int} (H:nm fD ue=some r):aE prog 78 [.agg (aj.row fD),.agg (Event.row ue)] (·=cI r):=by
 refine aE.bh func78 rfl ntmps78 rfl λS hS=>?_
 unfold nm at H;obtain ⟨y1,cV,H⟩:=ae H;refine .A 21 [.r 0,.r 1,.i y1] rfl (aB (en 6 rfl) rfl rfl (tS cV)) (.ite H rfl (λH=>?_) (λH=>?_))
 ·refine .E 6 rfl (.ite H rfl (λH=>?_) (λH=>?_))
  ·refine .E 4 rfl (.R func78 results78 rfl ?_);cases H;exact .m rfl (.ak _)
  ·refine .E 5 rfl (.R func78 results78 rfl ?_);cases H;exact .m rfl (.ak _)
 ·refine .E 7 rfl (.ite H rfl (λH=>?_) (λH=>?_))
  ·refine .E 4 rfl (.R func78 results78 rfl ?_);cases H;exact .m rfl (.ak _)
  ·obtain ⟨cH,H⟩:=ar H;refine .A 11 [.d (.ro (aq.pY (nth fD.aO y1.toNat)))] rfl (VT.ix rfl rfl rfl cH) (.ite H rfl (λH=>?_) (λH=>?_))
   ·refine .E 4 rfl (.R func78 results78 rfl ?_);cases H;exact .m rfl (.ak _)
   ·obtain ⟨y2,fY,H⟩:=ae H;refine .A 15 [.i y2] rfl ⟨rfl,rfl,λhg=>aB (en 7 rfl) rfl rfl (tA (bu fY hg)),rfl,rfl,rfl⟩ (.ite H rfl (λH=>?_) (λH=>?_))
    ·refine .E 4 rfl (.R func78 results78 rfl ?_);cases H;exact .m rfl (.ak _)
    ·obtain ⟨y3,kz,H⟩:=ae H;obtain ⟨dj,H⟩:=ar H;refine .B 25 [.b y3,.d (.ro (aq.pY (nth fD.aO y1.toNat)))] rfl ⟨rfl,rfl,rfl,λhg=>VT.ix rfl rfl rfl (dj hg),rfl,rfl,rfl,rfl,rfl,rfl,rfl,λhg=>aB (en 8 rfl) rfl rfl (KP (bu kz hg)),rfl,rfl,rfl⟩ (.kC (env':=[(46,_),(53,_)]) rfl rfl rfl ⟨.inr (.inl rfl),⟨.inr (.inr ⟨_,_,rfl,rfl⟩),trivial⟩⟩ rfl (λhg=>aJ.g (eD rfl rfl rfl)) (.A 2 [] rfl rfl (.ite H rfl (λH=>?_) (λH=>?_))))
     ·refine .E 4 rfl (.R func78 results78 rfl ?_);cases H;exact .m rfl (.ak _)
     ·refine .E 5 rfl (.R func78 results78 rfl ?_);cases H;exact .m rfl (.ak _)
theorem tB {lK:O (O uA)} {zG:O uA} {r:Bool} (H:pj lK zG=some r):aE prog 131 [ag 1 rS lK,cS zG] (·=cB r):=by
 refine aE.bh func131 rfl ntmps131 rfl λS hS=>?_
 unfold pj at H;refine .E 10 rfl (.lp H (λaI=>[(0,.d (ag 1 rS lK)),(1,.d (cS zG)),(5,.d (cI aI))]) (λaI=>⟨[],[]⟩) (.k3 rfl rfl rfl (.nil)) rfl ?_);rintro aI q1 H bC;unfold ri at H;refine .A 8 [.i (lK.length:Int)] rfl (tN.n rfl rfl) (.ite H rfl (λH=>?_) (λH=>?_))
 ·obtain ⟨cH,H⟩:=ar H;refine .A 12 [.d (.ro (rS (nth lK aI.toNat)))] rfl (tN.ix rfl rfl rfl cH) (.ite H rfl (λH=>?_) (λH=>?_))
  ·refine .E 4 rfl (.R func131 results131 rfl ?_);cases H;cases bC;exact .m rfl (.ak _)
  ·obtain ⟨dj,H⟩:=ar H;refine .A 7 [.i (aI+1)] rfl (aL rfl rfl dj) ?_;cases H;exact .z bC rfl rfl
 ·refine .E 5 rfl (.R func131 results131 rfl ?_);cases H;cases bC;exact .m rfl (.ak _)
theorem IF {fD:aj} {dE:O uA} {r:Bool} (H:tf fD dE=some r):aE prog 130 [.agg (aj.row fD),cS dE] (·=cB r):=by
 refine aE.bh func130 rfl ntmps130 rfl λS hS=>?_
 unfold tf at H;refine .A 11 [.r 0] rfl trivial (.lp H (λaI=>[(1,.d (cS dE)),(2,.ref 0 0),(5,.d (cI aI))]) (λaI=>⟨[aj.o97 fD],[]⟩) (.k3 rfl rfl rfl (.nil)) rfl ?_);rintro aI q1 H bC;unfold ox at H;refine .A 9 [.i (fD.bp.length:Int)] rfl (G1.n rfl rfl) (.ite H rfl (λH=>?_) (λH=>?_))
 ·obtain ⟨cH,H⟩:=ar H;obtain ⟨y1,cV,H⟩:=ae H;refine .A 14 [.d (.ro (Sub.row (nth fD.bp aI.toNat))),.b y1] rfl ⟨aB (en 9 rfl) rfl rfl (tB cV),G1.ix rfl rfl rfl cH⟩ (.ite H rfl (λH=>?_) (λH=>?_))
  ·refine .E 4 rfl (.R func130 results130 rfl ?_);cases H;cases bC;exact .m rfl (.ak _)
  ·obtain ⟨dj,H⟩:=ar H;refine .A 7 [.i (aI+1)] rfl (aL rfl rfl dj) ?_;cases H;exact .z bC rfl rfl
 ·refine .E 5 rfl (.R func130 results130 rfl ?_);cases H;cases bC;exact .m rfl (.ak _)
theorem IG {v0:aj} {v1:Event} {r:Int} (H:tg v0 v1=some r):aE prog 79 [.agg (aj.row v0),.agg (Event.row v1)] (·=cI r):=by
 refine aE.bh func79 rfl ntmps79 rfl λS hS=>?_
 unfold tg at H;obtain ⟨y1,cV,H⟩:=ae H;refine .A 20 [.r 0,.r 1,.i y1] rfl (aB (en 7 rfl) rfl rfl (tA cV)) (.ite H rfl (λH=>?_) (λH=>?_))
 ·refine .E 4 rfl (.R func79 results79 rfl ?_);cases H;exact .m rfl (.ak _)
 ·obtain ⟨y2,fY,H⟩:=ae H;refine .A 9 [.b y2] rfl (aB (en 5 rfl) rfl rfl (s4 fY)) (.ite H rfl (λH=>?_) (λH=>?_))
  ·refine .E 4 rfl (.R func79 results79 rfl ?_);cases H;exact .m rfl (.ak _)
  ·obtain ⟨cH,H⟩:=ar H;refine .A 23 [.d (.ro (Sub.row (nth v0.bp y1.toNat))),.r 2] rfl (G1.ix rfl rfl rfl cH) (.ite H rfl (λH=>?_) (λH=>?_))
   ·obtain ⟨y3,kz,H⟩:=ae H;refine .A 7 [.b y3] rfl (aB (en 10 rfl) rfl rfl (IF kz)) (.ite H rfl (λH=>?_) (λH=>?_))
    ·refine .E 4 rfl (.R func79 results79 rfl ?_);cases H;exact .m rfl (.ak _)
    ·refine .E 6 rfl (.R func79 results79 rfl ?_);cases H;exact .m rfl (.ak _)
   ·refine .E 5 rfl (.ite H rfl (λH=>?_) (λH=>?_))
    ·obtain ⟨y4,pS,H⟩:=ae H;refine .A 9 [.b y4] rfl (aB (en 9 rfl) rfl rfl (tB pS)) (.ite H rfl (λH=>?_) (λH=>?_))
     ·refine .E 4 rfl (.R func79 results79 rfl ?_);cases H;exact .m rfl (.ak _)
     ·refine .E 6 rfl (.R func79 results79 rfl ?_);cases H;exact .m rfl (.ak _)
    ·refine .E 5 rfl (.ite H rfl (λH=>?_) (λH=>?_))
     ·obtain ⟨y5,xn,H⟩:=ae H;refine .A 8 [.b y5] rfl (aB (en 9 rfl) rfl rfl (tB xn)) (.ite H rfl (λH=>?_) (λH=>?_))
      ·refine .E 4 rfl (.R func79 results79 rfl ?_);cases H;exact .m rfl (.ak _)
      ·refine .E 6 rfl (.R func79 results79 rfl ?_);cases H;exact .m rfl (.ak _)
     ·refine .E 5 rfl (.ite H rfl (λH=>?_) (λH=>?_))
      ·obtain ⟨y6,C0,H⟩:=ae H;refine .A 9 [.b y6] rfl (aB (en 9 rfl) rfl rfl (tB C0)) (.ite H rfl (λH=>?_) (λH=>?_))
       ·refine .E 4 rfl (.R func79 results79 rfl ?_);cases H;exact .m rfl (.ak _)
       ·refine .E 6 rfl (.R func79 results79 rfl ?_);cases H;exact .m rfl (.ak _)
      ·refine .iq (ι:=Bool) (λJt=>[(3,.ref 1 0),(6,.ref 2 0),(23,.d (cI v1.kind)),(53,.d (cB Jt))]) (λJt=>⟨[aj.o97 v0,Event.o57 v1,Sub.o148 (nth v0.bp y1.toNat)],[]⟩) (λs=>mm v0 v1 y1 s=some r) ?_ ?_
       ·rintro Jt H;replace H:mm v0 v1 y1 Jt=some r:=H;unfold mm at H;refine .ite H rfl (λH=>?_) (λH=>?_)
        ·refine .A 9 [.b (((nth v0.bp y1.toNat).bY)==(v1.kind==10))] rfl (aJ.g (Sk rfl underlying4 rfl)) (.ite H rfl (λH=>?_) (λH=>?_))
         ·refine .E 4 rfl (.R func79 results79 rfl ?_);cases H;exact .m rfl (.ak _)
         ·refine .E 6 rfl (.R func79 results79 rfl ?_);cases H;exact .m rfl (.ak _)
        ·refine .iq (ι:=Bool) (λJs=>[(3,.ref 1 0),(6,.ref 2 0),(62,.d (cB Js))]) (λJs=>⟨[aj.o97 v0,Event.o57 v1,Sub.o148 (nth v0.bp y1.toNat)],[]⟩) (λs=>ml v0 v1 y1 s=some r) ?_ ?_
         ·rintro Js H;replace H:ml v0 v1 y1 Js=some r:=H;unfold ml at H;refine .ite H rfl (λH=>?_) (λH=>?_)
          ·refine .A 9 [.b (((nth v0.bp y1.toNat).family)==(v1.kind==12))] rfl (aJ.g (Sk rfl underlying4 rfl)) (.ite H rfl (λH=>?_) (λH=>?_))
           ·refine .E 4 rfl (.R func79 results79 rfl ?_);cases H;exact .m rfl (.ak _)
           ·refine .E 6 rfl (.R func79 results79 rfl ?_);cases H;exact .m rfl (.ak _)
          ·refine .E 6 rfl (.R func79 results79 rfl ?_);cases H;exact .m rfl (.ak _)
         ·intro Co;refine .E 5 rfl (.ite H rfl (λH=>?_) (λH=>?_))
          ·exact .E 1 rfl (.z (Co (v1.kind==12) H) rfl rfl)
          ·exact .E 4 rfl (.z (Co (v1.kind==13) H) rfl rfl)
       ·intro pA;refine .E 5 rfl (.ite H rfl (λH=>?_) (λH=>?_))
        ·exact .E 1 rfl (.z (pA (v1.kind==10) H) rfl rfl)
        ·exact .E 4 rfl (.z (pA (v1.kind==11) H) rfl rfl)
theorem IH {fD:aj} {ue:Event} {sj r:Int} (H:qM fD ue sj=some r):aE prog 42 [.agg (aj.row fD),.agg (Event.row ue),cI sj] (·=cI r):=by
 obtain ⟨i4,Cn,Sg,Fz,VX⟩:=Mr;refine aE.bh func42 rfl ntmps42 rfl λS hS=>?_
 unfold qM at H;obtain ⟨y1,cV,H⟩:=ae H;refine .A 19 [.r 0,.r 1,.i y1] rfl (aB (en 11 rfl) rfl rfl (KO cV)) (.ite H rfl (λH=>?_) (λH=>?_))
 ·refine .E 5 rfl (.R func42 results42 rfl ?_);cases H;exact .m rfl (.ak _)
 ·obtain ⟨y2,fY,H⟩:=ae H;refine .A 9 [.d (.agg [cB (nth y2 0),cB (nth y2 1),cB (nth y2 2),cB (nth y2 3),cB (nth y2 4)]),.b (nth y2 0)] rfl ⟨aJ.g (SQ (m:=0) underlying140 Xr Cn Fz rfl rfl rfl (by decide) rfl),aB (en 0 rfl) rfl rfl (CZ fY)⟩ (.ite H rfl (λH=>?_) (λH=>?_))
  ·obtain ⟨y3,kz,H⟩:=ae H;refine .A 7 [.i y3] rfl (aB (en 12 rfl) rfl rfl (C1 kz)) (.R func42 results42 rfl ?_);cases H;exact .m rfl (.ak _)
  ·obtain ⟨y4,pS,H⟩:=ae H;refine .A 8 [.i y4] rfl (aB (en 13 rfl) rfl rfl (IG pS)) (.R func42 results42 rfl ?_);cases H;exact .m rfl (.ak _)
theorem C2 {lK:O (O uA)} {zG:O uA} {r:(O (O uA))} (H:sk lK zG=some r):aE prog 132 [ag 1 rS lK,cS zG] (·=ag 1 rS r):=by
 obtain ⟨i9,LA,RE,LB,hb9⟩:=Rx;refine aE.bh func132 rfl ntmps132 rfl λS hS=>?_
 unfold sk at H;refine .E 9 rfl (.bW (ι:=Int) (λct=>[(0,.d (ag 1 rS lK)),(1,.d (cS zG)),(5,.d (cI ct))]) (λct=>⟨[],[]⟩) (λs=>nE lK zG s=some r) ?_ ?_)
 ·rintro ct H;replace H:nE lK zG ct=some r:=H;unfold nE at H;obtain ⟨cH,dj,eH,iG,ly,H⟩:=ck5 H;refine let z0:=(([]:O (O uA))++(lK.take ct.toNat));.A 26 [.n (.cm 1 (([]:O (O uA)).map rS) 0) (E5 ([]:O (O uA)).length),.d (ag 1 rS (lK.take ct.toNat)),.a 0 9 1 rS z0,.d (ag 1 rS ([zG]:O (O uA))),.a 0 9 1 rS (z0++([zG]:O (O uA))),.d (ag 1 rS (lK.drop ct.toNat)),.a 0 9 1 rS ((z0++([zG]:O (O uA)))++(lK.drop ct.toNat))] rfl ⟨tN.a rfl rfl rfl rfl ly,aJ.g (J6 (l:=lK) (row:=rS) underlying146 LA LB rfl rfl rfl iG),tN.a rfl rfl rfl rfl eH,aM underlying146 LA LB RE rfl rfl rfl rfl rfl,tN.a rfl rfl rfl rfl dj,aJ.g (zw (l:=lK) (row:=rS) underlying146 LA LB rfl rfl rfl cH),.e (r8 underlying146 LA LB) rfl⟩ ?_;refine .R func132 results132 rfl ?_;cases H;exact .m rfl (.cm _ _ _)
 ·intro pA gn;refine .lp H (λdq=>[(0,.d (ag 1 rS lK)),(1,.d (cS zG)),(5,.d (cI dq))]) (λdq=>⟨[],[]⟩) (.k3 rfl rfl rfl (.nil)) rfl ?_;rintro dq q1 H bC;unfold wA at H;obtain ⟨pN,H⟩:=ar H;refine .A 16 [.i (lK.length:Int),.d (.ro (rS (nth lK dq.toNat))),.b (pM (nth lK dq.toNat) zG)] rfl ⟨rfl,λhg=>aJ.g (Te rfl rfl),rfl,rfl,rfl,λhg=>tN.ix rfl rfl rfl (pN hg),rfl,rfl,tN.n rfl rfl⟩ (.ite H rfl (λH=>?_) (λH=>?_))
  ·obtain ⟨vR,H⟩:=ar H;refine .A 8 [.i (dq+1)] rfl (aL rfl rfl vR) ?_;cases H;exact .z bC rfl rfl
  ·refine .E 1 rfl ?_;obtain ⟨q0,H9,n5⟩:=cn H;clear H;cases n5;cases bC;have H:=H9;exact .z (gn dq H) rfl rfl
end Go.Proofs.YtimkfiaffohhkabGreatDoor
