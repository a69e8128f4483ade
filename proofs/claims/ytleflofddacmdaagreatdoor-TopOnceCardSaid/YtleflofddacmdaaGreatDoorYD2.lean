/- Our own texts of this seat. -/
import Derived.Test.YtleflofddacmdaaGreatDoorYD1
import Derived.Lib.ItoaNum
import Derived.Lib.Join
import Derived.Lib.Split
import Derived.Lib.Strings
import Derived.Shelf.Strings.Builder1
import Derived.Shelf.Strings.Builder2
import Derived.Shelf.Strings.OnBuilder
import Derived.Shelf.Small.Utf8
import Derived.Shelf.Small.Bits
import Derived.Shelf.Small.Strs
import Derived.Shelf.Small.Wraps
import Derived.Shelf.Strconv.Itoa0
import Derived.Shelf.Strconv.Itoa1
import Derived.Shelf.LaysM
import Derived.Shelf.Strconv.Itoa2
import Derived.Shelf.Strconv.Itoa3
import Derived.Shelf.Strings.Search1
import Derived.Shelf.Strings.Search2
import Derived.Shelf.Strings.Search3
import Derived.Shelf.Strings.Cut
import Derived.Shelf.Strings.Count
import Derived.Shelf.Strings.Shaped
import Derived.Shelf.Strings.Prefix
import Derived.Shelf.Strings.Split
import Derived.Shelf.Strings.Runes
import Derived.Shelf.Strings.AsciiSet
import Derived.Shelf.Unicode.DecodeSlow
import Derived.Shelf.SlGeneric
import Derived.Shelf.SlSortCmp.NoneTotal
import Derived.Ground.SlsfProg
import Derived.Test.YtleflofddacmdaaGreatDoorProg
import Derived.Sort.Grow
import Derived.Deep.Draws
set_option linter.all false
set_option maxRecDepth 100000
set_option maxHeartbeats 4000000
noncomputable section
namespace Go.Proofs.YtleflofddacmdaaGreatDoor
open Go.RowKit Go.Abs
structure aa where
 source:Int
 aJ:Int
 kind:Int
 a:(LQ uA)
 b:(LQ uA)
 start:Int
 aX:Int
 call:Int
 part:Int
 last:Bool
 cN:Int
 bz:Bool
instance:Inhabited aa:=⟨⟨default,default,default,default,default,default,default,default,default,default,default,default⟩⟩
def aa.row(x:aa):= [cI x.source,cI x.aJ,cI x.kind,cS x.a,cS x.b,cI x.start,cI x.aX,cI x.call,cI x.part,cB x.last,cI x.cN,cB x.bz]
def aa.gn(x:aa):LQ uB:=[.int .i64 x.source,.int .i64 x.aJ,.int .i64 x.kind,.string ⟨x.a.toArray⟩,.string ⟨x.b.toArray⟩,.int .i64 x.start,.int .i64 x.aX,.int .i64 x.call,.int .i64 x.part,.bool x.last,.int .i64 x.cN,.bool x.bz]
structure Range where
 source:Int
 from_:Int
 uW:Int
instance:Inhabited Range:=⟨⟨default,default,default⟩⟩
def Range.row(x:Range):= [cI x.source,cI x.from_,cI x.uW]
structure Head where
 source:Int
 number:Int
 format:Int
 count:Int
instance:Inhabited Head:=⟨⟨default,default,default,default⟩⟩
def Head.row(x:Head):= [cI x.source,cI x.number,cI x.format,cI x.count]
structure ai where
 source:Int
 aJ:Int
 index:Int
 err:Int
instance:Inhabited ai:=⟨⟨default,default,default,default⟩⟩
def ai.row(x:ai):= [cI x.source,cI x.aJ,cI x.index,cI x.err]
def ai.gn(x:ai):LQ uB:=[.int .i64 x.source,.int .i64 x.aJ,.int .i64 x.index,.int .i64 x.err]
structure bC where
 id:Int
 kind:Int
 ah:Int
 sub:Int
 a:(LQ uA)
 b:(LQ uA)
 start:Int
 aX:Int
 cN:Int
 bz:Bool
 source:Int
 aJ:Int
instance:Inhabited bC:=⟨⟨default,default,default,default,default,default,default,default,default,default,default,default⟩⟩
def bC.row(x:bC):= [cI x.id,cI x.kind,cI x.ah,cI x.sub,cS x.a,cS x.b,cI x.start,cI x.aX,cI x.cN,cB x.bz,cI x.source,cI x.aJ]
structure Event where
 at_:Int
 kind:Int
 ah:Int
 sub:Int
 number:(LQ uA)
 name:(LQ uA)
 value:Int
instance:Inhabited Event:=⟨⟨default,default,default,default,default,default,default⟩⟩
def Event.row(x:Event):= [cI x.at_,cI x.kind,cI x.ah,cI x.sub,cS x.number,cS x.name,cI x.value]
structure aj where
 id:Int
 since:Int
 anchor:Int
 jN:Bool
 closed:Bool
 aV:(LQ Int)
instance:Inhabited aj:=⟨⟨default,default,default,default,default,default⟩⟩
def aj.row(x:aj):= [cI x.id,cI x.since,cI x.anchor,cB x.jN,cB x.closed,au 1 rI x.aV]
def aj.qI(x:aj):= [cI x.id,cI x.since,cI x.anchor,cB x.jN,cB x.closed,.e0 1]
structure Sub where
 id:Int
 ah:Int
 since:Int
 uX:(LQ uA)
 numbers:(LQ (LQ uA))
 bD:(LQ (LQ uA))
 br:Bool
 family:Bool
instance:Inhabited Sub:=⟨⟨default,default,default,default,default,default,default,default⟩⟩
def Sub.row(x:Sub):= [cI x.id,cI x.ah,cI x.since,cS x.uX,au 1 rS x.numbers,au 1 rS x.bD,cB x.br,cB x.family]
structure aA where
 aH:(LQ aj)
 aV:(LQ Sub)
 ended:(LQ Int)
instance:Inhabited aA:=⟨⟨default,default,default⟩⟩
def aA.row(x:aA):= [au 6 aj.qI x.aH,au 8 Sub.row x.aV,au 1 rI x.ended]
structure Element where
 tag:Int
 value:(LQ uA)
instance:Inhabited Element:=⟨⟨default,default⟩⟩
def Element.row(x:Element):= [cI x.tag,au 1 eW x.value]
structure cW where
 b:(LQ uA)
 bad:Bool
instance:Inhabited cW:=⟨⟨default,default⟩⟩
structure az where
 words:(LQ (LQ uA))
 bad:Bool
instance:Inhabited az:=⟨⟨default,default⟩⟩
structure fE where
 count:Int
 aX:(LQ Int)
instance:Inhabited fE:=⟨⟨default,default⟩⟩
def fE.row(x:fE):= [cI x.count,cI (nth x.aX 0),cI (nth x.aX 1),cI (nth x.aX 2),cI (nth x.aX 3),cI (nth x.aX 4)]
def fE.gn(x:fE):LQ uB:=[.int .i64 x.count,.int .i64 (nth x.aX 0),.int .i64 (nth x.aX 1),.int .i64 (nth x.aX 2),.int .i64 (nth x.aX 3),.int .i64 (nth x.aX 4)]
structure Batch where
 source:Int
 number:Int
 format:Int
 records:(LQ aa)
instance:Inhabited Batch:=⟨⟨default,default,default,default⟩⟩
def Batch.row(x:Batch):= [cI x.source,cI x.number,cI x.format,au 12 aa.row x.records]
structure dH where
 seen:(LQ Range)
 open_:(LQ aa)
 aZ:(LQ Head)
instance:Inhabited dH:=⟨⟨default,default,default⟩⟩
def dH.row(x:dH):= [au 3 Range.row x.seen,au 12 aa.row x.open_,au 4 Head.row x.aZ]
structure aM where
 aw:dH
 usages:(LQ bC)
 bc:(LQ aa)
 cX:(LQ ai)
instance:Inhabited aM:=⟨⟨default,default,default,default⟩⟩
def aM.row(x:aM):= [au 3 Range.row x.aw.seen,au 12 aa.row x.aw.open_,au 4 Head.row x.aw.aZ,au 12 bC.row x.usages,au 12 aa.row x.bc,au 4 ai.row x.cX]
structure eD where
 BX:Int
 Lg:Int
instance:Inhabited eD:=⟨⟨default,default⟩⟩
def eD.row(x:eD):= [cI x.BX,cI x.Lg]
structure aI where
 source:Int
 number:Int
instance:Inhabited aI:=⟨⟨default,default⟩⟩
def aI.row(x:aI):= [cI x.source,cI x.number]
def aI.gn(x:aI):LQ uB:=[.int .i64 x.source,.int .i64 x.number]
structure bm where
 call:aI
 kind:Int
 a:(LQ uA)
 b:(LQ uA)
 cN:Int
 bz:Bool
instance:Inhabited bm:=⟨⟨default,default,default,default,default,default⟩⟩
def bm.row(x:bm):= [cI x.call.source,cI x.call.number,cI x.kind,cS x.a,cS x.b,cI x.cN,cB x.bz]
def bm.gn(x:bm):LQ uB:=[.int .i64 x.call.source,.int .i64 x.call.number,.int .i64 x.kind,.string ⟨x.a.toArray⟩,.string ⟨x.b.toArray⟩,.int .i64 x.cN,.bool x.bz]
structure eA where
 record:aa
instance:Inhabited eA:=⟨⟨default⟩⟩
def eA.row(x:eA):= [cI x.record.source,cI x.record.aJ,cI x.record.kind,cS x.record.a,cS x.record.b,cI x.record.start,cI x.record.aX,cI x.record.call,cI x.record.part,cB x.record.last,cI x.record.cN,cB x.record.bz]
structure eU where
 aH:(LQ aj)
 aV:(LQ Sub)
instance:Inhabited eU:=⟨⟨default,default⟩⟩
def eU.row(x:eU):= [au 6 aj.row x.aH,au 8 Sub.row x.aV]
structure kV where
 source:eA
 events:(LQ Event)
instance:Inhabited kV:=⟨⟨default,default⟩⟩
def kV.row(x:kV):= [cI x.source.record.source,cI x.source.record.aJ,cI x.source.record.kind,cS x.source.record.a,cS x.source.record.b,cI x.source.record.start,cI x.source.record.aX,cI x.source.record.call,cI x.source.record.part,cB x.source.record.last,cI x.source.record.cN,cB x.source.record.bz,au 7 Event.row x.events]
structure kW where
 rT:aM
 events:(LQ Event)
instance:Inhabited kW:=⟨⟨default,default⟩⟩
def kW.row(x:kW):= [au 3 Range.row x.rT.aw.seen,au 12 aa.row x.rT.aw.open_,au 4 Head.row x.rT.aw.aZ,au 12 bC.row x.rT.usages,au 12 aa.row x.rT.bc,au 4 ai.row x.rT.cX,au 7 Event.row x.events]
structure lR where
 read:Int
 accepted:Int
 merged:Int
 rejected:Int
 br:Int
 open_:Int
instance:Inhabited lR:=⟨⟨default,default,default,default,default,default⟩⟩
def lR.row(x:lR):= [cI x.read,cI x.accepted,cI x.merged,cI x.rejected,cI x.br,cI x.open_]
abbrev aa.o94(x:aa):jE:=.row 94 [.d (cI x.source),.d (cI x.aJ),.d (cI x.kind),.d (cS x.a),.d (cS x.b),.d (cI x.start),.d (cI x.aX),.d (cI x.call),.d (cI x.part),.d (cB x.last),.d (cI x.cN),.d (cB x.bz)]
abbrev Head.o80(x:Head):jE:=.row 80 [.d (cI x.source),.d (cI x.number),.d (cI x.format),.d (cI x.count)]
abbrev bC.o50(x:bC):jE:=.row 50 [.d (cI x.id),.d (cI x.kind),.d (cI x.ah),.d (cI x.sub),.d (cS x.a),.d (cS x.b),.d (cI x.start),.d (cI x.aX),.d (cI x.cN),.d (cB x.bz),.d (cI x.source),.d (cI x.aJ)]
abbrev Event.o111(x:Event):jE:=.row 111 [.d (cI x.at_),.d (cI x.kind),.d (cI x.ah),.d (cI x.sub),.d (cS x.number),.d (cS x.name),.d (cI x.value)]
abbrev aj.o214(x:aj):jE:=.row 214 [.d (cI x.id),.d (cI x.since),.d (cI x.anchor),.d (cB x.jN),.d (cB x.closed),.d (au 1 rI x.aV)]
abbrev Sub.o218(x:Sub):jE:=.row 218 [.d (cI x.id),.d (cI x.ah),.d (cI x.since),.d (cS x.uX),.d (au 1 rS x.numbers),.d (au 1 rS x.bD),.d (cB x.br),.d (cB x.family)]
abbrev aM.o34(x:aM):jE:=.row 34 [.d (au 3 Range.row x.aw.seen),.d (au 12 aa.row x.aw.open_),.d (au 4 Head.row x.aw.aZ),.d (au 12 bC.row x.usages),.d (au 12 aa.row x.bc),.d (au 4 ai.row x.cX)]
abbrev mo0(l:LQ ((LQ uA)×Int)):jE:=.map (iP (λs=>Value.string ⟨s.toArray⟩) (λx=>cI x) l)
abbrev mo1(l:LQ ((Int)×Int)):jE:=.map (iP (λn=>Value.int .i64 n) (λx=>cI x) l)
abbrev mo2(l:LQ ((Int)×Bool)):jE:=.map (iP (λn=>Value.int .i64 n) (λx=>cB x) l)
abbrev mo3(l:LQ ((Int)×Sub)):jE:=.map (iP (λn=>Value.int .i64 n) (λx=>.agg (Sub.row x)) l)
abbrev mo4(l:LQ ((Int)×aj)):jE:=.map (iP (λn=>Value.int .i64 n) (λx=>.agg (aj.row x)) l)
abbrev kq0:aj:=(⟨0,0,0,false,false,([]:LQ Int)⟩:aj)
abbrev kq1:Sub:=(⟨0,0,0,([]:LQ uA),([]:LQ (LQ uA)),([]:LQ (LQ uA)),false,false⟩:Sub)
abbrev GW(n:Nat):ju:=⟨9,1,n,none⟩
abbrev Sub.Sv(l:LQ Sub):ju:=⟨218,8,l.length,some (l.map Sub.row)⟩
abbrev XA(n:Nat):ju:=⟨5,1,n,none⟩
abbrev cF(n:Nat):ju:=⟨94,12,n,none⟩
abbrev kG(n:Nat):ju:=⟨195,4,n,none⟩
abbrev Range.xF(n:Nat)(l:LQ Range):ju:=⟨203,3,n,some (l.map Range.row)⟩
abbrev yN(n:Nat):ju:=⟨203,3,n,none⟩
abbrev Range.uY(l:LQ Range):ju:=⟨203,3,l.length,some (l.map Range.row)⟩
abbrev aa.DJ(n:Nat)(l:LQ aa):ju:=⟨94,12,n,some (l.map aa.row)⟩
abbrev Sw(n:Nat):ju:=⟨3,1,n,none⟩
abbrev aa.xG(l:LQ aa):ju:=⟨94,12,l.length,some (l.map aa.row)⟩
abbrev ai.EU(l:LQ ai):ju:=⟨195,4,l.length,some (l.map ai.row)⟩
abbrev ai.JP(n:Nat)(l:LQ ai):ju:=⟨195,4,n,some (l.map ai.row)⟩
abbrev pY(n:Nat):ju:=⟨218,8,n,none⟩
abbrev bC.NL(l:LQ bC):ju:=⟨50,12,l.length,some (l.map bC.row)⟩
def tZ(n:Int):= ck (-9223372036854775808<=n/\n<=9223372036854775807) (some (Go.Lib.itoa n))
def Qy(xs:LQ (LQ uA))(sep:LQ uA):= ck (xs.length<=1000000000/\(Go.Lib.join xs sep).length<=1000000000) (some (Go.Lib.join xs sep))
def eH(xs:LQ aa):= ck (xs.length<=1000000000) (some xs)
def il(xs:LQ Range):= ck (xs.length<=1000000000) (some xs)
def od(xs:LQ Head):= ck (xs.length<=1000000000) (some xs)
def oB(i:Int)(l l':LQ aa):= ck (0<=i/\i<=l.length/\1<=l'.length/\l.length+l'.length<=1000000000) (some (l.take i.toNat++l'++l.drop i.toNat))
def pZ(i:Int)(l l':LQ Range):= ck (0<=i/\i<=l.length/\1<=l'.length/\l.length+l'.length<=1000000000) (some (l.take i.toNat++l'++l.drop i.toNat))
def qJ(i j:Int)(l' l:LQ aa):= ck (0<=i/\i<j/\j<=l.length/\l'.length<=j-i/\l.length<=1000000000) (some (l.take i.toNat++l'++l.drop j.toNat))
def mO(i j:Int)(l:LQ Range):= ck (0<=i/\i<j/\j<=l.length/\l.length<=1000000000) (some (l.take i.toNat++l.drop j.toNat))
def Fh(x:ai):List ai->List ai
 | []=>[x]
 | y::l=>if x.index<=y.index then x::y::l else y::Fh x l
def JQ:List ai->List ai
 | []=>[]
 | x::l=>Fh x (JQ l)
def ru(l:LQ ai):= ck (l.length<=1000000000/\(l.map (·.index)).Nodup) (some (JQ l))
def ua(xs:LQ ai):= ck (xs.length<=1000000000) (some xs)
def wa(xs:LQ bC):= ck (xs.length<=1000000000) (some xs)
def BY(s sep:LQ uA):= ck (s.length<=1000000000/\1<=sep.length) (some (Go.Lib.split s sep))
def Lh(s sub:LQ uA):= ck (s.length<=1000000000) (some (Go.Lib.index s sub))
def xH(s p:LQ uA):= ck (s.length<=1000000000) (some (Go.Lib.trimSuffix s p,Go.Lib.hasSuffix s p))
def DK:= some true
def mP(S:Bool):=
 if S then some [true,false,false,false,true]else some [false,true,false,false,false]
def kj(d:Int)(S:Bool):=
 if S then some [false,true,false,true,false]else if d==14 then mP (d==14)else mP (d==15)
def mQ(d:Int)(x:Bool):=
 if x then some [false,true,true,false,false]else if d==7 then kj d (d==7)else if d==8 then kj d (d==8)else kj d (d==9)
def sA(d:Int):=
 if d==1 then some [true,false,false,true,true]else if d==2 then some [true,false,false,false,false]else if d==3 then some [true,true,false,true,false]else if d==5 then mQ d (d==5)else mQ d (d==6)
def BZ(F:Int):=
 some (decide (F>=1) && decide (F<=9999))
def ub(h:LQ uA)(b:Int):LX (Int ⊕ Bool):=
 if decide (b<h.length)then ck (0<=b/\b<h.length) (ck ((!decide (nth h b.toNat<97))=true->0<=b/\b<h.length) (ck ((decide (nth h b.toNat<97) || decide (nth h b.toNat > 122))=true->0<=b/\b<h.length) (ck (((decide (nth h b.toNat<97) || decide (nth h b.toNat > 122)) && !decide (nth h b.toNat<48))=true->0<=b/\b<h.length) (ck (((decide (nth h b.toNat<97) || decide (nth h b.toNat > 122)) && (decide (nth h b.toNat<48) || decide (nth h b.toNat > 57)))=true->0<=b/\b<h.length) (if(decide (nth h b.toNat<97) || decide (nth h b.toNat > 122)) && (decide (nth h b.toNat<48) || decide (nth h b.toNat > 57)) && nth h b.toNat != 45 then some (.inr false)else ck (cR (b+1)) (some (.inl (b+1))))))))else some (.inr true)
def wc(b:LQ uA):=
 ck ((!(decide ((b.length:Int)<1) || decide ((b.length:Int) > 24)))=true->(0:Int)<=0/\0<(b.length:Int)) (ck ((!(decide ((b.length:Int)<1) || decide ((b.length:Int) > 24) || decide (nth b (Int.toNat 0)<97)))=true->(0:Int)<=0/\0<(b.length:Int)) (if decide ((b.length:Int)<1) || decide ((b.length:Int) > 24) || decide (nth b (Int.toNat 0)<97) || decide (nth b (Int.toNat 0) > 122)then some false else loop (λs=>ub b s) 0))
def sB(b:LQ uA):=
 some (decide ((b.length:Int)>=1) && decide ((b.length:Int)<=15))
def sC(h:LQ uA)(b:Int):LX (Int ⊕ Bool):=
 if decide (b<h.length)then ck (0<=b/\b<h.length) (ck ((!decide (nth h b.toNat<48))=true->0<=b/\b<h.length) (if decide (nth h b.toNat<48) || decide (nth h b.toNat > 57)then some (.inr false)else ck (cR (b+1)) (some (.inl (b+1)))))else(sB h).map λz=>.inr z
def tA(b:LQ uA):=
 loop (λs=>sC b s) 0
def tB(X:Event):=
 if X.kind==1 then some (decide (X.value>=1) && decide (X.value<=28))else if X.kind==14 then some (decide (X.value>=1) && decide (X.value<=1125899906842624))else some (decide (X.value>=-1125899906842624) && decide (X.value<=0))
def we(v0:Event)(v1:Int):LX Int:=
 if decide (v0.kind<1) || decide (v0.kind > 15)then some 7 else if decide (v0.at_<0) || decide (v0.at_>=12622780800)then some 15 else if decide (v0.at_<v1)then some 9 else(sA v0.kind).bind λy=>if !nth y 0 && v0.ah != 0 || !nth y 1 && v0.sub != 0 || !nth y 2 && v0.number != [] || !nth y 3 && v0.name != [] || !nth y 4 && v0.value != 0 then some 8 else(fH (nth y 0) (BZ v0.ah)).bind λy2=>(fH (!(nth y 0 && !y2) && nth y 1) (BZ v0.sub)).bind λy3=>if nth y 0 && !y2 || nth y 1 && !y3 then some 6 else(fH (nth y 3) (wc v0.name)).bind λy4=>if nth y 3 && !y4 || v0.kind==1 && v0.name != [112,114,101,112,97,105,100] && v0.name != [112,111,115,116,112,97,105,100]then some 8 else(fH (nth y 2) (tA v0.number)).bind λy5=>if nth y 2 && !y5 then some 12 else(fH (nth y 4) (tB v0)).bind λy6=>if nth y 4 && !y6 then some 6 else some 0
def pD(h:aA)(B:Int)(a:Int):LX (Int ⊕ Int):=
 if decide (a<h.aH.length)then ck (0<=a/\a<h.aH.length) (if(nth h.aH a.toNat).id==B then some (.inr a)else ck (cR (a+1)) (some (.inl (a+1))))else some (.inr (-1))
def qa(a:aA)(B:Int):=
 loop (λs=>pD a B s) 0
def wg(h:aA)(B:Int)(a:Int):LX (Int ⊕ Int):=
 if decide (a<h.aV.length)then ck (0<=a/\a<h.aV.length) (if(nth h.aV a.toNat).id==B then some (.inr a)else ck (cR (a+1)) (some (.inl (a+1))))else some (.inr (-1))
def uZ(a:aA)(B:Int):=
 loop (λs=>wg a B s) 0
def sD(h:aA)(B:Int)(a:Int):LX (Int ⊕ Bool):=
 if decide (a<h.ended.length)then ck (0<=a/\a<h.ended.length) (if nth h.ended a.toNat==B then some (.inr true)else ck (cR (a+1)) (some (.inl (a+1))))else some (.inr false)
def tC(a:aA)(B:Int):=
 loop (λs=>sD a B s) 0
def ud(h:aA)(B:Int)(a:Int):LX (Int ⊕ Bool):=
 if decide (a<h.aV.length)then ck (0<=a/\a<h.aV.length) (ck (((nth h.aV a.toNat).ah==B)=true->0<=a/\a<h.aV.length) ((fH ((nth h.aV a.toNat).ah==B) (tC h (nth h.aV a.toNat).id)).bind λy=>if(nth h.aV a.toNat).ah==B && !y then some (.inr true)else ck (cR (a+1)) (some (.inl (a+1)))))else some (.inr false)
def AA(a:aA)(B:Int):=
 loop (λs=>ud a B s) 0
def nh(a:aA)(r:Event):LX Int:=
 (qa a r.ah).bind λy=>if r.kind==1 then if decide (y>=0)then some 10 else some 0 else if decide (y<0)then some 11 else ck (0<=y/\y<a.aH.length) (if(nth a.aH y.toNat).closed then some 17 else(fH (r.kind==3) (uZ a r.sub)).bind λy2=>if r.kind==3 && decide (y2>=0)then some 10 else(fH (r.kind==2) (AA a r.ah)).bind λy3=>ck ((!(r.kind==2 && y3) && decide (r.kind > 13))=true->0<=y/\y<a.aH.length) (if r.kind==2 && y3 || decide (r.kind > 13) && !(nth a.aH y.toNat).jN then some 22 else some 0))
def wi(q:LQ (LQ uA))(z:LQ uA)(a:Int):LX (Int ⊕ Bool):=
 if decide (a<q.length)then ck (0<=a/\a<q.length) (if nth q a.toNat==z then some (.inr true)else ck (cR (a+1)) (some (.inl (a+1))))else some (.inr false)
def rV(q:LQ (LQ uA))(z:LQ uA):=
 loop (λs=>wi q z s) 0
def sE(h:aA)(g:LQ uA)(a:Int):LX (Int ⊕ Bool):=
 if decide (a<h.aV.length)then ck (0<=a/\a<h.aV.length) ((rV (nth h.aV a.toNat).numbers g).bind λy=>if y then some (.inr true)else ck (cR (a+1)) (some (.inl (a+1))))else some (.inr false)
def xJ(a:aA)(g:LQ uA):=
 loop (λs=>sE a g s) 0
def oC(v0:aA)(v1:Event)(y:Int)(S:Bool):LX Int:=
 if S then if(nth v0.aV y.toNat).family==(v1.kind==12)then some 22 else some 0 else some 0
def oD(v0:aA)(v1:Event)(y:Int)(S:Bool):=
 if S then if(nth v0.aV y.toNat).br==(v1.kind==10)then some 22 else some 0 else if v1.kind==12 then oC v0 v1 y (v1.kind==12)else oC v0 v1 y (v1.kind==13)
def tD(v0:aA)(v1:Event):=
 (uZ v0 v1.sub).bind λy=>if decide (y<0)then some 11 else(tC v0 v1.sub).bind λy2=>if y2 then some 17 else ck (0<=y/\y<v0.aV.length) (if v1.kind==5 then(xJ v0 v1.number).bind λy3=>if y3 then some 12 else some 0 else if v1.kind==6 then(rV (nth v0.aV y.toNat).numbers v1.number).bind λy4=>if !y4 then some 12 else some 0 else if v1.kind==8 then(rV (nth v0.aV y.toNat).bD v1.name).bind λy5=>if y5 then some 10 else some 0 else if v1.kind==9 then(rV (nth v0.aV y.toNat).bD v1.name).bind λy6=>if !y6 then some 11 else some 0 else if v1.kind==10 then oD v0 v1 y (v1.kind==10)else oD v0 v1 y (v1.kind==11))
def qx(a:aA)(r:Event)(L:Int):=
 (we r L).bind λy=>if y != 0 then some y else(sA r.kind).bind λy2=>if nth y2 0 then(nh a r).bind λy3=>some y3 else(tD a r).bind λy4=>some y4
def qb(q:LQ (LQ uA))(z:LQ uA)(b:Int):=
 ck (0<=b/\b<=q.length) (ck (([]:LQ (LQ uA)).length+(q.take b.toNat).length<=1000000000) (ck (([]++q.take b.toNat).length+[z].length<=1000000000) (ck (0<=b/\b<=q.length) (ck (([]++q.take b.toNat++[z]).length+(q.drop b.toNat).length<=1000000000) (some ([]++q.take b.toNat++[z]++q.drop b.toNat))))))
def zU(q:LQ (LQ uA))(h:LQ uA)(c:Int):LX (Int ⊕ LQ (LQ uA)):=
 ck (decide (c<q.length)=true->0<=c/\c<q.length) (if decide (c<q.length) && mr (nth q c.toNat) h then ck (cR (c+1)) (some (.inl (c+1)))else(qb q h c).map λz=>.inr z)
def wj(q:LQ (LQ uA))(z:LQ uA):=
 loop (λs=>zU q z s) 0
def u0(q:LQ (LQ uA))(z:LQ uA)(h:LQ (LQ uA))(b:Int):LX (LQ (LQ uA)×Int ⊕ LQ (LQ uA)):=
 if decide (b<q.length)then ck (0<=b/\b<q.length) (if nth q b.toNat != z then ck (0<=b/\b<q.length) (ck (h.length+[nth q b.toNat].length<=1000000000) (ck (cR (b+1)) (some (.inl (h++[nth q b.toNat],b+1)))))else ck (cR (b+1)) (some (.inl (h,b+1))))else some (.inr h)
def qc(q:LQ (LQ uA))(z:LQ uA):=
 loop (λs=>u0 q z s.1 s.2) ([],0)
def qd(b:Sub)(r:Event):=
 if r.kind==4 then some ⟨b.id,b.ah,b.since,b.uX,[],[],b.br,b.family⟩else if r.kind==5 then(wj b.numbers r.number).bind λy=>some ⟨b.id,b.ah,b.since,b.uX,y,b.bD,b.br,b.family⟩else if r.kind==6 then(qc b.numbers r.number).bind λy2=>some ⟨b.id,b.ah,b.since,b.uX,y2,b.bD,b.br,b.family⟩else if r.kind==7 then some ⟨b.id,b.ah,b.since,r.name,b.numbers,b.bD,b.br,b.family⟩else if r.kind==8 then(wj b.bD r.name).bind λy3=>some ⟨b.id,b.ah,b.since,b.uX,b.numbers,y3,b.br,b.family⟩else if r.kind==9 then(qc b.bD r.name).bind λy4=>some ⟨b.id,b.ah,b.since,b.uX,b.numbers,y4,b.br,b.family⟩else if r.kind==10 then some ⟨b.id,b.ah,b.since,b.uX,b.numbers,b.bD,true,b.family⟩else if r.kind==11 then some ⟨b.id,b.ah,b.since,b.uX,b.numbers,b.bD,false,b.family⟩else if r.kind==12 then some ⟨b.id,b.ah,b.since,b.uX,b.numbers,b.bD,b.br,true⟩else if r.kind==13 then some ⟨b.id,b.ah,b.since,b.uX,b.numbers,b.bD,b.br,false⟩else some b
def kX(v0:aA)(v1:Event)(S:Bool):LX aA:=
 if S then some ⟨ []++v0.aH,[]++v0.aV,[]++v0.ended⟩else(uZ v0 v1.sub).bind λy2=>ck (0<=y2/\y2<([]++v0.aV).length) (ck (y2.toNat<([]++v0.aV).length) ((qd (nth ([]++v0.aV) y2.toNat) v1).bind λy3=>ck (0<=y2/\y2<([]++v0.aV).length) (ck (y2.toNat<([]++v0.aV).length) (if v1.kind==4 then ck (([]++v0.ended).length+[v1.sub].length<=1000000000) (some ⟨ []++v0.aH,([]++v0.aV).set y2.toNat y3,[]++v0.ended++[v1.sub]⟩)else some ⟨ []++v0.aH,([]++v0.aV).set y2.toNat y3,[]++v0.ended⟩))))
def jC(v0:aA)(v1:Event):=
 ck (v0.aH.length<=1000000000) (ck (v0.aV.length<=1000000000) (ck (v0.ended.length<=1000000000) (if v1.kind==1 then ck (([]++v0.aH).length+[(⟨v1.ah,v1.at_,v1.value,v1.name==[112,114,101,112,97,105,100],false,[]⟩:aj)].length<=1000000000) (some ⟨ []++v0.aH++[⟨v1.ah,v1.at_,v1.value,v1.name==[112,114,101,112,97,105,100],false,[]⟩],[]++v0.aV,[]++v0.ended⟩)else if v1.kind==2 then(qa v0 v1.ah).bind λy=>ck (0<=y/\y<([]++v0.aH).length) (ck (y.toNat<([]++v0.aH).length) (some ⟨([]++v0.aH).set y.toNat ⟨(nth ([]++v0.aH) y.toNat).id,(nth ([]++v0.aH) y.toNat).since,(nth ([]++v0.aH) y.toNat).anchor,(nth ([]++v0.aH) y.toNat).jN,true,[]⟩,[]++v0.aV,[]++v0.ended⟩))else if v1.kind==3 then ck (([]++v0.aV).length+[(⟨v1.sub,v1.ah,v1.at_,v1.name,[],[],false,false⟩:Sub)].length<=1000000000) (some ⟨ []++v0.aH,[]++v0.aV++[⟨v1.sub,v1.ah,v1.at_,v1.name,[],[],false,false⟩],[]++v0.ended⟩)else if v1.kind==14 then kX v0 v1 (v1.kind==14)else kX v0 v1 (v1.kind==15))))
def oE(a:LQ Event)(k:Int)(b:Int)(h:LQ aj)(g:LQ Sub)(n:LQ Int):LX (Int×Int×LQ aj×LQ Sub×LQ Int ⊕ Int×Int):=
 if decide (b<a.length)then ck (0<=b/\b<a.length) ((qx ⟨h,g,n⟩ (nth a b.toNat) k).bind λy=>if y != 0 then some (.inr (b,y))else ck (0<=b/\b<a.length) ((jC ⟨h,g,n⟩ (nth a b.toNat)).bind λy2=>ck (0<=b/\b<a.length) (ck (cR (b+1)) (some (.inl ((nth a b.toNat).at_,b+1,y2.aH,y2.aV,y2.ended))))))else some (.inr (0,0))
def tE(a:LQ Event):=
 if decide ((a.length:Int) > 4096)then some (0,5)else loop (λs=>oE a s.1 s.2.1 s.2.2.1 s.2.2.2.1 s.2.2.2.2) (0,0,[],[],[])
def qe(a:LQ Event):=
 (tE a).bind λy=>some (y.2==0)
def uf(h:LQ Event)(l:LQ (LQ uA))(a:Int):LX (Int ⊕ Bool):=
 if decide (a<l.length)then ck (0<=a/\a<l.length) (if decide (((nth l a.toNat).length:Int) > 2000)then some (.inr false)else ck (cR (a+1)) (some (.inl (a+1))))else(qe h).map λz=>.inr z
def wk(a:LQ Event)(l:LQ (LQ uA)):=
 if decide ((a.length:Int) > 24) || decide ((l.length:Int) > 6)then some false else loop (λs=>uf a l s) 0
def rv(Q:Int):=
 ck ((0:Int)<=1) (ck (-9223372036854775807<=IntKind.wrap .i64 (Gq .u64 Q 1)/\IntKind.wrap .i64 (Gq .u64 Q 1)<=9223372036854775807) (some (M7 .i64 (IntKind.wrap .i64 (Int.fdiv Q (2 ^ min (Int.toNat 1) 64))) (-IntKind.wrap .i64 (Gq .u64 Q 1)))))
def qK(a:LQ uA)(J:Int)(b:Int):LX (Int×Int ⊕ Int×Int×Int):=
 if decide (b<a.length)then ck (0<=b/\b<a.length) (if b==9 && nth a b.toNat != 1 || decide (b > 0) && nth a b.toNat==0 then some (.inr (0,0,1))else ck (cR (7*b)) (ck (0<=7*b) (if decide (nth a b.toNat<128)then(rv (IV .u64 J (IntKind.wrap .u64 (IntKind.wrap .u64 (nth a b.toNat &&& 127).toNat*2 ^ min (7*b).toNat 64)))).bind λy=>ck (cR (b+1)) (some (.inr (y,b+1,0)))else ck (cR (b+1)) (some (.inl (IV .u64 J (IntKind.wrap .u64 (IntKind.wrap .u64 (nth a b.toNat &&& 127).toNat*2 ^ min (7*b).toNat 64)),b+1))))))else some (.inr (0,0,2))
def ry(a:LQ uA):=
 loop (λs=>qK a s.1 s.2) (0,0)
def rz(a:LQ uA)(w:Int):=
 ck (cR (a.length-w)) (ck (0<=a.length-w/\a.length-w<=a.length-w/\a.length-w<=1000000000) (ck (0<=w/\w<=a.length/\a.length<=(a.length:Int)/\a.length<=(a.length:Int)) (some (((a.take (a.length:Int).toNat).drop w.toNat).take (min ((a.take (a.length:Int).toNat).drop w.toNat).length (List.replicate (a.length-w).toNat 0:LQ uA).length)++(List.replicate (a.length-w).toNat 0).drop (min ((a.take (a.length:Int).toNat).drop w.toNat).length (List.replicate (a.length-w).toNat 0:LQ uA).length)))))
def cH(a:LQ uA):=
 (ry a).bind λy=>if y.2.2 != 0 then some (0,[],y.2.2)else(rz a y.2.1).bind λy2=>some (y.1,y2,0)
def sF(a:LQ uA)(m:Int)(b:Int):LX (Int×Int ⊕ Int):=
 if decide (b<a.length)then ck (0<=b/\b<a.length) (ck (cR (b+1)) (some (.inl (IntKind.wrap .u32 (M7 .u32 m (IntKind.wrap .u32 (nth a b.toNat).toNat)*16777619),b+1))))else some (.inr m)
def oe(a:LQ uA):=
 loop (λs=>sF a s.1 s.2) (2166136261,0)
def sG(v0:LQ uA):LX (Int×Int×Int):=
 ck (0<=(if 10<(v0.length:Int)then 10 else(v0.length:Int))/\(if 10<(v0.length:Int)then 10 else(v0.length:Int))<=(if 10<(v0.length:Int)then 10 else(v0.length:Int))/\(if 10<(v0.length:Int)then 10 else(v0.length:Int))<=v0.length) ((cH (v0.take (if 10<(v0.length:Int)then 10 else(v0.length:Int)).toNat)).bind λy=>if y.2.2 != 0 then some (0,0,y.2.2)else if decide (y.1<0)then some (0,0,1)else if decide (y.1 > 1048576)then some (0,0,5)else ck (cR ((v0.take (if 10<(v0.length:Int)then 10 else(v0.length:Int)).toNat).length-y.2.1.length)) (ck (cR (v0.length-((v0.take (if 10<(v0.length:Int)then 10 else(v0.length:Int)).toNat).length-y.2.1.length))) (ck (cR (4+y.1)) (if decide (v0.length-((v0.take (if 10<(v0.length:Int)then 10 else(v0.length:Int)).toNat).length-y.2.1.length)<4+y.1)then some (0,0,2)else ck (0<=(v0.take (if 10<(v0.length:Int)then 10 else(v0.length:Int)).toNat).length-(y.2.1.length:Int)/\(v0.take (if 10<(v0.length:Int)then 10 else(v0.length:Int)).toNat).length-y.2.1.length<(v0.length:Int)) (ck ((0:Int)<=24) (ck (cR ((v0.take (if 10<(v0.length:Int)then 10 else(v0.length:Int)).toNat).length-y.2.1.length+1)) (ck (0<=(v0.take (if 10<(v0.length:Int)then 10 else(v0.length:Int)).toNat).length-(y.2.1.length:Int)+1/\(v0.take (if 10<(v0.length:Int)then 10 else(v0.length:Int)).toNat).length-y.2.1.length+1<(v0.length:Int)) (ck ((0:Int)<=16) (ck (cR ((v0.take (if 10<(v0.length:Int)then 10 else(v0.length:Int)).toNat).length-y.2.1.length+2)) (ck (0<=(v0.take (if 10<(v0.length:Int)then 10 else(v0.length:Int)).toNat).length-(y.2.1.length:Int)+2/\(v0.take (if 10<(v0.length:Int)then 10 else(v0.length:Int)).toNat).length-y.2.1.length+2<(v0.length:Int)) (ck ((0:Int)<=8) (ck (cR ((v0.take (if 10<(v0.length:Int)then 10 else(v0.length:Int)).toNat).length-y.2.1.length+3)) (ck (0<=(v0.take (if 10<(v0.length:Int)then 10 else(v0.length:Int)).toNat).length-(y.2.1.length:Int)+3/\(v0.take (if 10<(v0.length:Int)then 10 else(v0.length:Int)).toNat).length-y.2.1.length+3<(v0.length:Int)) (ck (cR ((v0.take (if 10<(v0.length:Int)then 10 else(v0.length:Int)).toNat).length-y.2.1.length+4)) (ck (cR ((v0.take (if 10<(v0.length:Int)then 10 else(v0.length:Int)).toNat).length-y.2.1.length+4)) (ck (cR ((v0.take (if 10<(v0.length:Int)then 10 else(v0.length:Int)).toNat).length-y.2.1.length+4+y.1)) (ck (0<=(v0.take (if 10<(v0.length:Int)then 10 else(v0.length:Int)).toNat).length-(y.2.1.length:Int)+4/\(v0.take (if 10<(v0.length:Int)then 10 else(v0.length:Int)).toNat).length-y.2.1.length+4<=(v0.take (if 10<(v0.length:Int)then 10 else(v0.length:Int)).toNat).length-y.2.1.length+4+y.1/\(v0.take (if 10<(v0.length:Int)then 10 else(v0.length:Int)).toNat).length-y.2.1.length+4+y.1<=v0.length) ((oe ((v0.take ((v0.take (if 10<(v0.length:Int)then 10 else(v0.length:Int)).toNat).length-y.2.1.length+4+y.1).toNat).drop ((v0.take (if 10<(v0.length:Int)then 10 else(v0.length:Int)).toNat).length-(y.2.1.length:Int)+4).toNat)).bind λy2=>if(y2 != (IV .u32 (IV .u32 (IV .u32 (IntKind.wrap .u32 ((IntKind.wrap .u32 (nth v0 ((v0.take ((if 10<(v0.length:Int)then 10 else(v0.length:Int))).toNat).length - (y.2.1.length:Int)).toNat).toNat)*2 ^ (min (Int.toNat (24)) 32))) (IntKind.wrap .u32 ((IntKind.wrap .u32 (nth v0 (((v0.take ((if 10<(v0.length:Int)then 10 else(v0.length:Int))).toNat).length - (y.2.1.length:Int))+1).toNat).toNat)*2 ^ (min (Int.toNat (16)) 32)))) (IntKind.wrap .u32 ((IntKind.wrap .u32 (nth v0 (((v0.take ((if 10<(v0.length:Int)then 10 else(v0.length:Int))).toNat).length - (y.2.1.length:Int))+2).toNat).toNat)*2 ^ (min (Int.toNat (8)) 32)))) (IntKind.wrap .u32 (nth v0 (((v0.take ((if 10<(v0.length:Int)then 10 else(v0.length:Int))).toNat).length - (y.2.1.length:Int))+3).toNat).toNat)))then some (0,0,4)else ck (cR (((v0.take ((if 10<(v0.length:Int)then 10 else(v0.length:Int))).toNat).length - y.2.1.length)+4)) (ck (cR (((v0.take ((if 10<(v0.length:Int)then 10 else(v0.length:Int))).toNat).length - y.2.1.length)+4)) (ck (cR ((((v0.take ((if 10<(v0.length:Int)then 10 else(v0.length:Int))).toNat).length - y.2.1.length)+4)+y.1)) (some (((v0.take ((if 10<(v0.length:Int)then 10 else(v0.length:Int))).toNat).length - y.2.1.length)+4,(((v0.take ((if 10<(v0.length:Int)then 10 else(v0.length:Int))).toNat).length - y.2.1.length)+4)+y.1,0))))))))))))))))))))))
def kZ(a:LQ uA)(c:Int)(j:Int):=
 ck (cR (j-c)) (ck (0<=j-c/\j-c<=j-c/\j-c<=1000000000) (ck (0<=c/\c<=j/\j<=j/\j<=a.length) (some (((a.take j.toNat).drop c.toNat).take (min ((a.take j.toNat).drop c.toNat).length (List.replicate (j-c).toNat 0:LQ uA).length)++(List.replicate (j-c).toNat 0).drop (min ((a.take j.toNat).drop c.toNat).length (List.replicate (j-c).toNat 0:LQ uA).length)))))
def jg(a:LQ uA):=
 (sG a).bind λy=>if y.2.2 != 0 then some ([],[],y.2.2)else(kZ a y.1 y.2.1).bind λy2=>(kZ a y.2.1 a.length).bind λy3=>some (y2,y3,0)
def er(F:Int)(L:Int)(h:Int):=
 some (decide (F>=L) && decide (F<=h))
def eN(v:Head):LX Int:=
 (er v.source 1 99).bind λy=>(fH (!!y) (er v.number 1 999999999)).bind λy2=>if !y || !y2 then some 6 else(er v.format 1 3).bind λy3=>if !y3 then some 7 else(er v.count 0 4096).bind λy4=>if !y4 then some 5 else some 0
def nK(u:LQ uA)(j:Int)(D:Int)(p:Int)(h:Int):LX (Int×Head):=
 if decide ((u.length:Int) > 0)then some (3,⟨j,D,p,h⟩)else some (0,⟨j,D,p,h⟩)
def ni(h:LQ uA)(a:Head):=
 (cH h).bind λy=>if y.2.2 != 0 then some (y.2.2,a)else(cH y.2.1).bind λy2=>if y2.2.2 != 0 then some (y2.2.2,⟨y.1,a.number,a.format,a.count⟩)else(cH y2.2.1).bind λy3=>if y3.2.2 != 0 then some (y3.2.2,⟨y.1,y2.1,a.format,a.count⟩)else(cH y3.2.1).bind λy4=>if y4.2.2 != 0 then some (y4.2.2,⟨y.1,y2.1,y3.1,a.count⟩)else nK y4.2.1 y.1 y2.1 y3.1 y4.1
def qf(L:LQ uA):=
 (jg L).bind λy=>if y.2.2 != 0 then some (⟨0,0,0,0⟩,[],y.2.2)else(ni y.1 ⟨0,0,0,0⟩).bind λy2=>if y2.1 != 0 then some (⟨0,0,0,0⟩,[],y2.1)else(eN y2.2).bind λy3=>if y3 != 0 then some (⟨0,0,0,0⟩,[],y3)else some (y2.2,y.2.1,0)
def mR(a:LQ uA):LX (Int×Int):=
 if decide ((a.length:Int)<2)then some (0,2)else ck ((0:Int)<=0/\0<(a.length:Int)) (ck ((0:Int)<=8/\8<(63:Int)/\cR ((nth a (Int.toNat 0)).toNat*2 ^ Int.toNat 8)) (ck (cR (2+(nth a (Int.toNat 0)).toNat*2 ^ Int.toNat 8)) (ck ((0:Int)<=1/\1<(a.length:Int)) (ck (cR (2+(nth a (Int.toNat 0)).toNat*2 ^ Int.toNat 8+(nth a (Int.toNat 1)).toNat)) (if decide (a.length<2+(nth a (Int.toNat 0)).toNat*2 ^ Int.toNat 8+((nth a (Int.toNat 1)).toNat:Int))then some (0,2)else some (2+(nth a (Int.toNat 0)).toNat*2 ^ Int.toNat 8+(nth a (Int.toNat 1)).toNat,0))))))
def lg(b:LQ uA)(t:LQ Element)(k:Int):LX (LQ uA×LQ Element×Int ⊕ LQ Element×Int):=
 if decide ((b.length:Int) > 0)then ck ((0:Int)<=0/\0<(b.length:Int)) (if((nth b (Int.toNat 0)).toNat:Int)==0 then some (.inr ([],6))else if decide ((nth b (Int.toNat 0)).toNat<=k)then some (.inr ([],9))else ck ((!decide ((b.length:Int)<2))=true->cR (b.length-2)) (ck ((!decide ((b.length:Int)<2))=true->(0:Int)<=1/\1<(b.length:Int)) (if decide ((b.length:Int)<2) || decide (b.length-2<((nth b (Int.toNat 1)).toNat:Int))then some (.inr ([],2))else ck ((0:Int)<=1/\1<(b.length:Int)) (ck (cR (2+(nth b (Int.toNat 1)).toNat)) (ck (0<=(2:Int)/\2<=2+((nth b (Int.toNat 1)).toNat:Int)/\2+(nth b (Int.toNat 1)).toNat<=(b.length:Int)) (ck (((b.take (Int.toNat (2+(nth b (Int.toNat 1)).toNat))).drop (2:Int).toNat).length<=1000000000) (ck (t.length+[(⟨ (nth b (Int.toNat 0)).toNat,(b.take (Int.toNat (2+(nth b (Int.toNat 1)).toNat))).drop (2:Int).toNat⟩:Element)].length<=1000000000) (ck (0<=2+((nth b (Int.toNat 1)).toNat:Int)/\2+(nth b (Int.toNat 1)).toNat<=(b.length:Int)) (some (.inl (b.drop (Int.toNat (2+(nth b (Int.toNat 1)).toNat)),t++[⟨ (nth b (Int.toNat 0)).toNat,(b.take (Int.toNat (2+(nth b (Int.toNat 1)).toNat))).drop (2:Int).toNat⟩],(nth b (Int.toNat 0)).toNat)))))))))))else some (.inr (t,0))
def kH(a:LQ uA):=
 loop (λs=>lg s.1 s.2.1 s.2.2) (a,[],0)
def nL(f:LQ uA)(j:Int)(i:Int):LX (Int×Int ⊕ Int×Bool):=
 if decide (i<f.length)then ck (0<=i/\i<f.length) (ck ((0:Int)<=8/\8<(63:Int)/\cR (j*2 ^ Int.toNat 8)) (ck (cR (j*2 ^ Int.toNat 8+(nth f i.toNat).toNat)) (ck (cR (i+1)) (some (.inl (j*2 ^ Int.toNat 8+(nth f i.toNat).toNat,i+1))))))else some (.inr (j,true))
def dn(f:LQ uA):=
 ck ((!(decide ((f.length:Int)<1) || decide ((f.length:Int) > 6)))=true->(0:Int)<=0/\0<(f.length:Int)) (if decide ((f.length:Int)<1) || decide ((f.length:Int) > 6) || nth f (Int.toNat 0)==0 then some (0,false)else loop (λs=>nL f s.1 s.2) (0,0))
def sH(v:uA):=
 some (decide (v>=48) && decide (v<=57))
def oF(b:LQ uA):=
 some (decide ((b.length:Int)>=1) && decide ((b.length:Int)<=15))
def oG(b:LQ uA)(o:Int):LX (Int ⊕ Bool):=
 if decide (o<b.length)then ck (0<=o/\o<b.length) ((sH (nth b o.toNat)).bind λy=>if !y then some (.inr false)else ck (cR (o+1)) (some (.inl (o+1))))else(oF b).map λz=>.inr z
def ji(b:LQ uA):=
 loop (λs=>oG b s) 0
def jO(x:LQ uA):LX (LQ uA×Int):=
 (ji x).bind λy=>if !y then some ([],12)else some (x,0)
def nM(a:LQ uA)(x:LQ uA)(l:Int):LX (LQ uA×Int ⊕ LQ uA×Int):=
 if decide (l<a.length)then ck (0<=l/\l<a.length) (ck ((0:Int)<=4) (ck (x.length+[48+eX (nth a l.toNat) 4].length<=1000000000) (ck (!nth a l.toNat &&& 15 != 15=true->cR (a.length-1)) (if nth a l.toNat &&& 15 != 15 || decide (l<a.length-1)then ck ((x++[48+eX (nth a l.toNat) 4]).length+[48+(nth a l.toNat &&& 15)].length<=1000000000) (ck (cR (l+1)) (some (.inl (x++[48+eX (nth a l.toNat) 4]++[48+(nth a l.toNat &&& 15)],l+1))))else ck (cR (l+1)) (some (.inl (x++[48+eX (nth a l.toNat) 4],l+1)))))))else(jO x).map λz=>.inr z
def nj(a:LQ uA):=
 loop (λs=>nM a s.1 s.2) ([],0)
def dq(F:Int)(L:Int)(h:Int):=
 some (decide (F>=L) && decide (F<=h))
def gL(v0:aa)(v:Int):LX Int:=
 (dq v0.source 1 99).bind λy=>(fH (!!y) (dq v0.aJ 1 999999999)).bind λy2=>if !y || !y2 then some 6 else(dq v0.kind 1 4).bind λy3=>if !y3 then some 7 else(ji v0.a).bind λy4=>(fH (!!y4) (ji v0.b)).bind λy5=>if !y4 || !y5 && !((v0.kind==3 || v0.kind==4) && v0.b==[])then some 12 else(dq v0.start 0 12622780799).bind λy6=>if !y6 then some 15 else(dq v0.aX 0 v).bind λh=>if !h then some 6 else ck ((v0.kind==1)=true->cR (v0.start+v0.aX)) (if v0.kind==1 && decide (v0.start+v0.aX > 12622780800)then some 15 else(dq v0.call 0 999999999).bind λy8=>(fH (!!y8) (dq v0.part 0 99)).bind λy9=>if !y8 || !y9 then some 6 else if(v0.part==0) != (v0.call==0) || v0.last && v0.part==0 then some 8 else(dq v0.cN 0 999).bind λL=>if !L then some 6 else if v0.bz && v0.cN==0 then some 8 else some 0)
def nk(v0:aa):=
 if v0.kind==1 then gL v0 604800 else gL v0 1099511627776
def ga(U:LQ (LQ uA)):LX (LQ uA×Int):=
 (Qy U [32]).bind λy6=>some (y6,0)
def iT(v0:aa)(B:LQ (LQ uA))(D:LQ uA):=
 (tZ v0.cN).bind λy=>ck (B.length+[D,y].length<=1000000000) (ga (B++[D,y]))
def eV(v0:aa)(B:LQ (LQ uA)):=
 if v0.cN != 0 then if v0.bz then iT v0 B [105,110]else iT v0 B [111,117,116]else ga B
def gf(v0:aa)(D:LQ uA):=
 ck (cR (v0.kind-1)) (ck (0<=v0.kind-1/\v0.kind-1<=v0.kind/\v0.kind<=([118,116,100,99]:LQ uA).length) ((tZ v0.source).bind λy2=>(tZ v0.aJ).bind λy3=>(tZ v0.start).bind λy4=>(tZ v0.aX).bind λy5=>if v0.part != 0 then(tZ v0.call).bind λy8=>(tZ v0.part).bind λy9=>ck ([([118,116,100,99].take v0.kind.toNat).drop (v0.kind-1).toNat,y2,y3,v0.a,D,y4,y5].length+[[112,97,114,116],y8,y9].length<=1000000000) (if v0.last then ck (([([118,116,100,99].take v0.kind.toNat).drop (v0.kind-1).toNat,y2,y3,v0.a,D,y4,y5]++[[112,97,114,116],y8,y9]).length+[([108,97,115,116]:LQ uA)].length<=1000000000) (eV v0 ([([118,116,100,99].take v0.kind.toNat).drop (v0.kind-1).toNat,y2,y3,v0.a,D,y4,y5]++[[112,97,114,116],y8,y9]++[[108,97,115,116]]))else eV v0 ([([118,116,100,99].take v0.kind.toNat).drop (v0.kind-1).toNat,y2,y3,v0.a,D,y4,y5]++[[112,97,114,116],y8,y9]))else eV v0 [([118,116,100,99].take v0.kind.toNat).drop (v0.kind-1).toNat,y2,y3,v0.a,D,y4,y5]))
def dr(v0:aa):=
 (nk v0).bind λy=>if y != 0 then some ([],y)else if v0.b==[]then gf v0 [45]else gf v0 v0.b
def im(v1:Element)(h:aa)(S:Bool):=
 if S then(nj v1.value).bind λy9=>if v1.tag==4 then some (y9.2==0,⟨h.source,h.aJ,h.kind,y9.1,h.b,h.start,h.aX,h.call,h.part,h.last,h.cN,h.bz⟩)else some (y9.2==0,⟨h.source,h.aJ,h.kind,h.a,y9.1,h.start,h.aX,h.call,h.part,h.last,h.cN,h.bz⟩)else if v1.tag==11 then ck ((!(v1.value.length:Int) != 1)=true->(0:Int)<=0/\0<(v1.value.length:Int)) (ck ((!((v1.value.length:Int) != 1 || decide (nth v1.value (Int.toNat 0)<1)))=true->(0:Int)<=0/\0<(v1.value.length:Int)) (if(v1.value.length:Int) != 1 || decide (nth v1.value (Int.toNat 0)<1) || decide (nth v1.value (Int.toNat 0) > 3)then some (false,h)else ck ((0:Int)<=0/\0<(v1.value.length:Int)) (ck ((0:Int)<=0/\0<(v1.value.length:Int)) (some (true,⟨h.source,h.aJ,h.kind,h.a,h.b,h.start,h.aX,h.call,h.part,nth v1.value (Int.toNat 0) &&& 1 != 0,h.cN,nth v1.value (Int.toNat 0) &&& 2 != 0⟩)))))else some (false,h)
def oH(v1:Element)(h:aa):=
 if decide (v1.tag=1)then(dn v1.value).bind λy=>some (y.2,⟨h.source,h.aJ,y.1,h.a,h.b,h.start,h.aX,h.call,h.part,h.last,h.cN,h.bz⟩)else if decide (v1.tag=2)then(dn v1.value).bind λy2=>some (y2.2,⟨y2.1,h.aJ,h.kind,h.a,h.b,h.start,h.aX,h.call,h.part,h.last,h.cN,h.bz⟩)else if decide (v1.tag=3)then(dn v1.value).bind λy3=>some (y3.2,⟨h.source,y3.1,h.kind,h.a,h.b,h.start,h.aX,h.call,h.part,h.last,h.cN,h.bz⟩)else if decide (v1.tag=6)then(dn v1.value).bind λy4=>some (y4.2,⟨h.source,h.aJ,h.kind,h.a,h.b,y4.1,h.aX,h.call,h.part,h.last,h.cN,h.bz⟩)else if decide (v1.tag=7)then(dn v1.value).bind λy5=>some (y5.2,⟨h.source,h.aJ,h.kind,h.a,h.b,h.start,y5.1,h.call,h.part,h.last,h.cN,h.bz⟩)else if decide (v1.tag=8)then(dn v1.value).bind λy6=>some (y6.2,⟨h.source,h.aJ,h.kind,h.a,h.b,h.start,h.aX,y6.1,h.part,h.last,h.cN,h.bz⟩)else if decide (v1.tag=9)then(dn v1.value).bind λH=>some (H.2,⟨h.source,h.aJ,h.kind,h.a,h.b,h.start,h.aX,h.call,H.1,h.last,h.cN,h.bz⟩)else if decide (v1.tag=10)then(dn v1.value).bind λy8=>some (y8.2,⟨h.source,h.aJ,h.kind,h.a,h.b,h.start,h.aX,h.call,h.part,h.last,y8.1,h.bz⟩)else if v1.tag==4 then im v1 h (v1.tag==4)else im v1 h (v1.tag==5)
def nN(q:Int)(h:Int)(D:Int)(H:LQ uA)(a:LQ uA)(b:Int)(c:Int)(d:Int)(e:Int)(f:Bool)(y:Int)(g:Bool):LX (aa×Int):=
 (dr ⟨q,h,D,H,a,b,c,d,e,f,y,g⟩).bind λy3=>if y3.2 != 0 then some (⟨0,0,0,[],[],0,0,0,0,false,0,false⟩,y3.2)else some (⟨q,h,D,H,a,b,c,d,e,f,y,g⟩,0)
def jP(y2:LQ Element×Int)(h:Int)(j:Int)(c:Int)(H:Int)(d:LQ uA)(e:LQ uA)(f:Int)(g:Int)(A:Int)(i:Int)(k:Bool)(w:Int)(l:Bool):LX (Int×Int×Int×Int×LQ uA×LQ uA×Int×Int×Int×Int×Bool×Int×Bool ⊕ aa×Int):=
 if decide (h<y2.1.length)then ck (0<=h/\h<y2.1.length) ((oH (nth y2.1 h.toNat) ⟨j,c,H,d,e,f,g,A,i,k,w,l⟩).bind λy4=>if !y4.1 then some (.inr (⟨0,0,0,[],[],0,0,0,0,false,0,false⟩,1))else ck (cR (h+1)) (some (.inl (h+1,y4.2.source,y4.2.aJ,y4.2.kind,y4.2.a,y4.2.b,y4.2.start,y4.2.aX,y4.2.call,y4.2.part,y4.2.last,y4.2.cN,y4.2.bz))))else(nN j c H d e f g A i k w l).map λz=>.inr z
def fc(a:LQ uA)(x:Int):=
 if x != 0 then some (⟨0,0,0,[],[],0,0,0,0,false,0,false⟩,x)else ck (0<=(2:Int)/\2<=(a.length:Int)) ((kH (a.drop (2:Int).toNat)).bind λy2=>if y2.2 != 0 then some (⟨0,0,0,[],[],0,0,0,0,false,0,false⟩,y2.2)else loop (λs=>jP y2 s.1 s.2.1 s.2.2.1 s.2.2.2.1 s.2.2.2.2.1 s.2.2.2.2.2.1 s.2.2.2.2.2.2.1 s.2.2.2.2.2.2.2.1 s.2.2.2.2.2.2.2.2.1 s.2.2.2.2.2.2.2.2.2.1 s.2.2.2.2.2.2.2.2.2.2.1 s.2.2.2.2.2.2.2.2.2.2.2.1 s.2.2.2.2.2.2.2.2.2.2.2.2) (0,0,0,0,[],[],0,0,0,0,false,0,false))
def nm(a:LQ uA):=
 (mR a).bind λy=>if y.2==0 && decide (y.1<a.length)then fc a 3 else fc a y.2
def wP(l:LQ aa)(p:LQ ai):LX (LQ aa×LQ ai×Int):=
 some (l,p,0)
def j8(b:LQ uA)(s:Int)(y:Int×Int)(h:LQ aa)(D:LQ ai):LX (LQ uA×LQ aa×LQ ai×Int ⊕ LQ aa×LQ ai×Int):=
 ck (0<=y.1/\y.1<=b.length) (ck (cR (s+1)) (some (.inl (b.drop y.1.toNat,h,D,s+1))))
def qN(b:LQ uA)(h:LQ aa)(g:LQ ai)(s:Int):=
 if decide ((b.length:Int) > 0)then if s==4096 then some (.inr ([],[],5))else(mR b).bind λy=>if y.2 != 0 then some (.inr ([],[],y.2))else ck (0<=y.1/\y.1<=b.length) ((nm (b.take y.1.toNat)).bind λy2=>if y2.2 != 0 then ck (g.length+[(⟨0,0,s,y2.2⟩:ai)].length<=1000000000) (j8 b s y h (g++[⟨0,0,s,y2.2⟩]))else ck (h.length+[y2.1].length<=1000000000) (j8 b s y (h++[y2.1]) g))else(wP h g).map λz=>.inr z
def rA(a:LQ uA):=
 loop (λs=>qN s.1 s.2.1 s.2.2.1 s.2.2.2) (a,[],[],0)
def wQ(a:LQ uA)(m:uA)(b:Int):LX (uA×Int ⊕ uA):=
 if decide (b<a.length)then ck (0<=b/\b<a.length) (ck (cR (b+1)) (some (.inl (m+nth a b.toNat,b+1))))else some (.inr m)
def rB(a:LQ uA):=
 loop (λs=>wQ a s.1 s.2) (0,0)
def ra(a:LQ uA)(j:Int)(e:Int):LX (Int×Int ⊕ Int×Int):=
 if decide (e<a.length)then ck (0<=e/\e<a.length) (ck ((0:Int)<=4) (if decide (eX (nth a e.toNat) 4 > 9) || decide (nth a e.toNat &&& 15 > 9)then some (.inr (0,1))else ck (cR (100*j)) (ck ((0:Int)<=4) (ck (cR ((eX (nth a e.toNat) 4).toNat*10)) (ck (cR (100*j+(eX (nth a e.toNat) 4).toNat*10)) (ck (cR (100*j+(eX (nth a e.toNat) 4).toNat*10+(nth a e.toNat &&& 15).toNat)) (ck (cR (e+1)) (some (.inl (100*j+(eX (nth a e.toNat) 4).toNat*10+(nth a e.toNat &&& 15).toNat,e+1))))))))))else some (.inr (j,0))
def lV(a:LQ uA):=
 if decide ((a.length:Int)<1) || decide ((a.length:Int) > 9)then some (0,6)else loop (λs=>ra a s.1 s.2) (0,0)
def fe(e:LQ uA)(b:LQ uA)(c:Int)(f:uA):LX (LQ uA×Int ⊕ LQ uA×Bool):=
 if decide (c<(eX (nth e (Int.toNat 0)) 4).toNat) && decide (f<=9)then ck (b.length+[48+f].length<=1000000000) (ck (cR (c+1)) (some (.inl (b++[48+f],c+1))))else if decide (c<(eX (nth e (Int.toNat 0)) 4).toNat) || f != 0 then some (.inr ([],false))else ck (cR (c+1)) (some (.inl (b,c+1)))
def sJ(e:LQ uA)(b:LQ uA)(c:Int):=
 if decide (c<15)then ck (cR (c+1)) (ck (2≠(0:Int)/\cR (Int.tdiv (c+1) 2)) (ck (0<=Int.tdiv (c+1) 2/\Int.tdiv (c+1) 2<e.length) (ck ((0:Int)<=4) (ck (2≠(0:Int)) (if Int.tmod c 2==0 then ck (2≠(0:Int)/\cR (Int.tdiv c 2)) (ck (0<=Int.tdiv c 2/\Int.tdiv c 2<e.length) (fe e b c (nth e (Int.tdiv c 2).toNat &&& 15)))else fe e b c (eX (nth e (Int.tdiv (c+1) 2).toNat) 4))))))else some (.inr (b,true))
def np(e:LQ uA):=
 ck ((0:Int)<=0/\0<(e.length:Int)) (ck ((0:Int)<=4) (loop (λs=>sJ e s.1 s.2) ([],0)))
def dv(k:Int)(a:cW):LX (LQ uA×cW):=
 ck (0<=k/\k<=k/\k<=a.b.length) (ck (0<=k/\k<=a.b.length) (some (a.b.take k.toNat,⟨a.b.drop k.toNat,a.bad⟩)))
def bI(k:Int)(a:cW):LX (Int×cW):=
 (dv k a).bind λy=>(lV y.1).bind λy2=>some (y2.1,⟨y.2.b,y.2.bad || y2.2 != 0⟩)
def eO(a:cW):LX (LQ uA×cW):=
 (dv 8 a).bind λy=>(np y.1).bind λy2=>some (y2.1,⟨y.2.b,y.2.bad || !y2.2⟩)
def nq(v0:LQ uA):LX (aa×Int):=
 if decide ((v0.length:Int)<45)then some (⟨0,0,0,[],[],0,0,0,0,false,0,false⟩,2)else if decide ((v0.length:Int) > 45)then some (⟨0,0,0,[],[],0,0,0,0,false,0,false⟩,3)else ck (0<=(44:Int)/\44<=(v0.length:Int)) ((rB (v0.take (44:Int).toNat)).bind λh=>ck ((0:Int)<=44/\44<(v0.length:Int)) (if h != nth v0 (Int.toNat 44)then some (⟨0,0,0,[],[],0,0,0,0,false,0,false⟩,4)else(bI 1 ⟨v0,false⟩).bind λy2=>(bI 5 y2.2).bind λy3=>(dv 1 y3.2).bind λy4=>ck ((0:Int)<=0/\0<(y4.1.length:Int)) (ck ((0:Int)<=4) ((eO y4.2).bind λy5=>(eO y5.2).bind λy6=>(bI 6 y6.2).bind λy=>(bI 7 y.2).bind λy8=>(bI 5 y8.2).bind λy9=>(bI 1 y9.2).bind λL=>(bI 2 L.2).bind λQ=>if Q.2.bad || decide (nth y4.1 (Int.toNat 0) &&& 15 > 3)then some (⟨0,0,0,[],[],0,0,0,0,false,0,false⟩,1)else(dr ⟨y2.1,y3.1,(eX (nth y4.1 (Int.toNat 0)) 4).toNat,y5.1,y6.1,y.1,y8.1,y9.1,L.1,nth y4.1 (Int.toNat 0) &&& 1 != 0,Q.1,nth y4.1 (Int.toNat 0) &&& 2 != 0⟩).bind λS=>if S.2 != 0 then some (⟨0,0,0,[],[],0,0,0,0,false,0,false⟩,S.2)else some (⟨y2.1,y3.1,(eX (nth y4.1 (Int.toNat 0)) 4).toNat,y5.1,y6.1,y.1,y8.1,y9.1,L.1,nth y4.1 (Int.toNat 0) &&& 1 != 0,Q.1,nth y4.1 (Int.toNat 0) &&& 2 != 0⟩,0)))))
def wR(l:LQ aa)(p:LQ ai)(d:LQ uA)(L:Bool):LX (LQ aa×LQ ai×Int):=
 some (l,p,0)
def qO(c:LQ uA)(h:LQ aa)(g:LQ ai)(w:Int)(H:LQ uA)(a:Bool):LX (LQ aa×LQ ai×Int×LQ uA×Bool ⊕ LQ aa×LQ ai×Int):=
 if decide (w<Int.tdiv (c.length:Int) 45)then(dv 45 ⟨H,a⟩).bind λy=>(nq y.1).bind λy2=>if y2.2 != 0 then ck (g.length+[(⟨0,0,w,y2.2⟩:ai)].length<=1000000000) (ck (cR (w+1)) (some (.inl (h,g++[⟨0,0,w,y2.2⟩],w+1,y.2.b,y.2.bad))))else ck (h.length+[y2.1].length<=1000000000) (ck (cR (w+1)) (some (.inl (h++[y2.1],g,w+1,y.2.b,y.2.bad))))else(wR h g H a).map λz=>.inr z
def rC(a:LQ uA):=
 ck (45≠(0:Int)) (if Int.tmod (a.length:Int) 45 != 0 then some ([],[],2)else ck (45≠(0:Int)/\cR (Int.tdiv (a.length:Int) 45)) (if decide (Int.tdiv (a.length:Int) 45 > 4096)then some ([],[],5)else ck (45≠(0:Int)/\cR (Int.tdiv (a.length:Int) 45)) (loop (λs=>qO a s.1 s.2.1 s.2.2.1 s.2.2.2.1 s.2.2.2.2) ([],[],0,a,false))))
def nr(b:LQ uA):LX (LQ (LQ uA)×Int):=
 if b==[]then some ([],0)else(xH b [10]).bind λy=>if !y.2 then some ([],1)else(BY y.1 [10]).bind λy2=>if decide ((y2.length:Int) > 4096)then some ([],5)else some (y2,0)
def lh(b:LQ uA)(j:Int)(h:Nat):LX (Int×Nat ⊕ Int×Bool):=
 if decide (h<b.length)then ck (h<b.length) (if decide (((nH b h).1:Int)<48) || decide (((nH b h).1:Int) > 57)then some (.inr (0,false))else ck (cR (10*j)) (ck (cR (10*j+IntKind.wrap .i64 (IntKind.wrap .i32 ((nH b h).1-48)))) (some (.inl (10*j+IntKind.wrap .i64 (IntKind.wrap .i32 ((nH b h).1-48)),zN b h)))))else some (.inr (j,true))
def kI(b:LQ uA):=
 ck ((!(b==[] || decide ((b.length:Int) > 15)))=true->(0:Int)<=0/\0<(b.length:Int)) (if b==[] || decide ((b.length:Int) > 15) || nth b (Int.toNat 0)==48 && b != [48]then some (0,false)else loop (λs=>lh b s.1 s.2) (0,0))
def dx(a:az):LX (LQ uA×az):=
 ck (!(a.words.length:Int)==0=true->(0:Int)<=0/\0<(a.words.length:Int)) (if(a.words.length:Int)==0 || nth a.words (Int.toNat 0)==[]then some ([],⟨a.words,true⟩)else ck ((0:Int)<=0/\0<(a.words.length:Int)) (ck (0<=(1:Int)/\1<=(a.words.length:Int)) (some (nth a.words (Int.toNat 0),⟨a.words.drop (1:Int).toNat,a.bad⟩))))
def bw(a:az):LX (Int×az):=
 (dx a).bind λy=>(kI y.1).bind λy2=>some (y2.1,⟨y.2.words,y.2.bad || !y2.2⟩)
def dy(z:LQ uA)(a:az):=
 ck ((!(a.words.length:Int)==0)=true->(0:Int)<=0/\0<(a.words.length:Int)) (if(a.words.length:Int)==0 || nth a.words (Int.toNat 0) != z then some (false,a)else ck (0<=(1:Int)/\1<=(a.words.length:Int)) (some (true,⟨a.words.drop (1:Int).toNat,a.bad⟩)))
def iU(y3:Int)(y4:Int×az)(y5:Int×az)(y6:LQ uA×az)(y8:Int×az)(y9:Int×az)(j:LQ uA)(n:Int)(h:Int)(H:Bool)(q:Int)(a:Bool)(D:Int):LX (aa×Int):=
 if D != 0 then some (⟨0,0,0,[],[],0,0,0,0,false,0,false⟩,D)else some (⟨y4.1,y5.1,1+y3,y6.1,j,y8.1,y9.1,n,h,H,q,a⟩,0)
def dX(v0:LQ uA)(y2:LQ uA×az)(y3:Int)(y4:Int×az)(y5:Int×az)(y6:LQ uA×az)(y8:Int×az)(y9:Int×az)(j:LQ uA)(n:Int)(h:Int)(H:Bool)(D:LQ (LQ uA))(G:Bool)(q:Int)(a:Bool):=
 if G || (y2.1.length:Int) != 1 || 1+y3==0 || decide ((D.length:Int) > 0)then some (⟨0,0,0,[],[],0,0,0,0,false,0,false⟩,1)else(dr ⟨y4.1,y5.1,1+y3,y6.1,j,y8.1,y9.1,n,h,H,q,a⟩).bind λL=>if L.2==0 && L.1 != v0 then iU y3 y4 y5 y6 y8 y9 j n h H q a 1 else iU y3 y4 y5 y6 y8 y9 j n h H q a L.2
def gg(v0:LQ uA)(y2:LQ uA×az)(y3:Int)(y4:Int×az)(y5:Int×az)(y6:LQ uA×az)(y8:Int×az)(y9:Int×az)(j:LQ uA)(q:LQ (LQ uA))(b:Bool)(n:Int)(H:Int)(a:Bool):=
 (dy [105,110] ⟨q,b⟩).bind λQ=>if Q.1 then(bw Q.2).bind λS=>dX v0 y2 y3 y4 y5 y6 y8 y9 j n H a S.2.words S.2.bad S.1 true else(dy [111,117,116] Q.2).bind λy=>if y.1 then(bw y.2).bind λh=>dX v0 y2 y3 y4 y5 y6 y8 y9 j n H a h.2.words h.2.bad h.1 false else dX v0 y2 y3 y4 y5 y6 y8 y9 j n H a y.2.words y.2.bad 0 false
def dY(v0:LQ uA)(y2:LQ uA×az)(y3:Int)(y4:Int×az)(y5:Int×az)(y6:LQ uA×az)(y8:Int×az)(y9:Int×az)(j:LQ uA):=
 (dy [112,97,114,116] y9.2).bind λy=>if y.1 then(bw y.2).bind λH=>(bw H.2).bind λa=>(dy [108,97,115,116] a.2).bind λh=>gg v0 y2 y3 y4 y5 y6 y8 y9 j h.2.words h.2.bad H.1 a.1 h.1 else gg v0 y2 y3 y4 y5 y6 y8 y9 j y.2.words y.2.bad 0 0 false
def lW(v0:LQ uA):=
 (BY v0 [32]).bind λh=>(dx ⟨h,false⟩).bind λy2=>(Lh [118,116,100,99] y2.1).bind λy3=>ck (cR (1+y3)) ((bw y2.2).bind λy4=>(bw y4.2).bind λy5=>(dx y5.2).bind λy6=>(dx y6.2).bind λy=>(bw y.2).bind λy8=>(bw y8.2).bind λy9=>if y.1==[45]then dY v0 y2 y3 y4 y5 y6 y8 y9 []else dY v0 y2 y3 y4 y5 y6 y8 y9 y.1)
def u5(y:LQ aa)(D:LQ ai):LX (LQ aa×LQ ai×Int):=
 some (y,D,0)
def pH(y:LQ (LQ uA)×Int)(q:LQ aa)(u:LQ ai)(i:Int):LX (LQ aa×LQ ai×Int ⊕ LQ aa×LQ ai×Int):=
 if decide (i<y.1.length)then ck (0<=i/\i<y.1.length) ((lW (nth y.1 i.toNat)).bind λy2=>if y2.2 != 0 then ck (u.length+[(⟨0,0,i,y2.2⟩:ai)].length<=1000000000) (ck (cR (i+1)) (some (.inl (q,u++[⟨0,0,i,y2.2⟩],i+1))))else ck (q.length+[y2.1].length<=1000000000) (ck (cR (i+1)) (some (.inl (q++[y2.1],u,i+1)))))else(u5 q u).map λz=>.inr z
def qj(b:LQ uA):=
 (nr b).bind λy=>if y.2 != 0 then some ([],[],y.2)else loop (λs=>pH y s.1 s.2.1 s.2.2) ([],[],0)
def oI(x:Int)(I:LQ uA):=
 if x==2 then(rA I).bind λy=>some (y.1,y.2.1,y.2.2)else if x==3 then(rC I).bind λy2=>some (y2.1,y2.2.1,y2.2.2)else(qj I).bind λy3=>some (y3.1,y3.2.1,y3.2.2)
def ko(a:fE)(u:LQ uA)(j:Int)(p:Int)(h:Int)(D:Int)(H:Int):LX (Int×fE):=
 if decide ((u.length:Int) > 0)then some (3,⟨j,[nth a.aX 0,p,h,D,H]⟩)else some (0,⟨j,[nth a.aX 0,p,h,D,H]⟩)
def jR(h:LQ uA)(a:fE):=
 (cH h).bind λy=>if y.2.2 != 0 then some (y.2.2,a)else(cH y.2.1).bind λy2=>if y2.2.2 != 0 then some (y2.2.2,⟨y.1,a.aX⟩)else(cH y2.2.1).bind λy3=>if y3.2.2 != 0 then some (y3.2.2,⟨y.1,[nth a.aX 0,y2.1,nth a.aX 2,nth a.aX 3,nth a.aX 4]⟩)else(cH y3.2.1).bind λy4=>if y4.2.2 != 0 then some (y4.2.2,⟨y.1,[nth a.aX 0,y2.1,y3.1,nth a.aX 3,nth a.aX 4]⟩)else(cH y4.2.1).bind λy5=>if y5.2.2 != 0 then some (y5.2.2,⟨y.1,[nth a.aX 0,y2.1,y3.1,y4.1,nth a.aX 4]⟩)else ko a y5.2.1 y.1 y2.1 y3.1 y4.1 y5.1
def ff(y:LQ uA×LQ uA×Int)(x:Int):=
 if x != 0 then some (⟨0,[0,0,0,0,0]⟩,x)else(jR y.1 ⟨0,[0,0,0,0,0]⟩).bind λy2=>some (y2.2,y2.1)
def nt(L:LQ uA):=
 (jg L).bind λy=>if y.2.2==0 && decide ((y.2.1.length:Int) > 0)then ff y 3 else ff y y.2.2
def oJ(a:LQ aa)(c:Int)(h:Int)(H:Int)(b:Int)(d:Int)(e:Int):LX (Int×Int×Int×Int×Int×Int ⊕ fE):=
 if decide (c<a.length)then ck (0<=c/\c<a.length) ((er (nth a c.toNat).kind 1 4).bind λy=>(fH y (er (nth a c.toNat).aX 0 1099511627776)).bind λy2=>if y && y2 then ck (0<=(nth a c.toNat).kind/\(nth a c.toNat).kind<5) (ck ((nth a c.toNat).kind.toNat<5) (ck (cR (nth [h,H,b,d,e] (nth a c.toNat).kind.toNat+(nth a c.toNat).aX)) (ck (0<=(nth a c.toNat).kind/\(nth a c.toNat).kind<5) (ck ((nth a c.toNat).kind.toNat<5) (ck (cR (c+1)) (some (.inl (c+1,nth (uU [h,H,b,d,e] 5 (nth a c.toNat).kind.toNat (nth [h,H,b,d,e] (nth a c.toNat).kind.toNat+(nth a c.toNat).aX)) 0,nth (uU [h,H,b,d,e] 5 (nth a c.toNat).kind.toNat (nth [h,H,b,d,e] (nth a c.toNat).kind.toNat+(nth a c.toNat).aX)) 1,nth (uU [h,H,b,d,e] 5 (nth a c.toNat).kind.toNat (nth [h,H,b,d,e] (nth a c.toNat).kind.toNat+(nth a c.toNat).aX)) 2,nth (uU [h,H,b,d,e] 5 (nth a c.toNat).kind.toNat (nth [h,H,b,d,e] (nth a c.toNat).kind.toNat+(nth a c.toNat).aX)) 3,nth (uU [h,H,b,d,e] 5 (nth a c.toNat).kind.toNat (nth [h,H,b,d,e] (nth a c.toNat).kind.toNat+(nth a c.toNat).aX)) 4))))))))else ck (cR (c+1)) (some (.inl (c+1,h,H,b,d,e))))else some (.inr ⟨ a.length,[h,H,b,d,e]⟩)
def oK(a:LQ aa):=
 loop (λs=>oJ a s.1 s.2.1 s.2.2.1 s.2.2.2.1 s.2.2.2.2.1 s.2.2.2.2.2) (0,0,0,0,0,0)
def wT(y:Head×LQ uA×Int)(y3:LQ aa×LQ ai×Int):LX (Batch×LQ ai×Int):=
 some (⟨y.1.source,y.1.number,y.1.format,y3.1⟩,y3.2.1,0)
def nu(y:Head×LQ uA×Int)(y3:LQ aa×LQ ai×Int)(B:Int):LX (Int ⊕ Batch×LQ ai×Int):=
 if decide (B<y3.1.length)then ck (0<=B/\B<y3.1.length) (if(nth y3.1 B.toNat).source != y.1.source then some (.inr (⟨0,0,0,[]⟩,[],8))else ck (cR (B+1)) (some (.inl (B+1))))else(wT y y3).map λz=>.inr z
def rD(v0:LQ uA):=
 (qf v0).bind λy=>if y.2.2 != 0 then some (⟨0,0,0,[]⟩,[],y.2.2)else(jg y.2.1).bind λy2=>if y2.2.2 != 0 then some (⟨0,0,0,[]⟩,[],y2.2.2)else(oI y.1.format y2.1).bind λy3=>if y3.2.2 != 0 then some (⟨0,0,0,[]⟩,[],y3.2.2)else(nt y2.2.1).bind λy4=>if y4.2 != 0 then some (⟨0,0,0,[]⟩,[],y4.2)else(oK y3.1).bind λy5=>if !jy (fE.gn y4.1) (fE.gn y5) || y.1.count != y3.1.length then some (⟨0,0,0,[]⟩,[],14)else loop (λs=>nu y y3 s) 0
def og(q:aM):=
 ck (q.aw.seen.length<=1000000000) (ck (q.aw.open_.length<=1000000000) (ck (q.aw.aZ.length<=1000000000) (ck (q.usages.length<=1000000000) (ck (q.bc.length<=1000000000) (ck (q.cX.length<=1000000000) (some q))))))
def sK(a:Batch):LX Head:=
 some ⟨a.source,a.number,a.format,a.records.length⟩
def jm(a:Batch)(e:Int):LX (Int ⊕ Int):=
 if decide (e<a.records.length)then ck (0<=e/\e<a.records.length) ((dr (nth a.records e.toNat)).bind λy3=>if y3.2 != 0 then some (.inr y3.2)else if(nth a.records e.toNat).source != a.source then some (.inr 8)else ck (cR (e+1)) (some (.inl (e+1))))else some (.inr 0)
def ql(a:Batch):=
 (sK a).bind λy=>(eN y).bind λy2=>if y2 != 0 then some y2 else loop (λs=>jm a s) 0
def u6(u:dH)(c:Int)(a:Int):LX (Int ⊕ Int):=
 if decide (a>=0)then ck (0<=a/\a<u.aZ.length) (if(nth u.aZ a.toNat).source==c then ck (0<=a/\a<u.aZ.length) (ck (cR ((nth u.aZ a.toNat).number+1)) (some (.inr ((nth u.aZ a.toNat).number+1))))else ck (cR (a-1)) (some (.inl (a-1))))else some (.inr 1)
def mS(u:dH)(c:Int):=
 if decide (c<1) || decide (c > 99)then some 0 else ck (cR (u.aZ.length-1)) (loop (λs=>u6 u c s) (u.aZ.length-1))
def kJ(t:aa)(S:eD):LX Int:=
 if decide (t.start<S.BX) || decide (t.start > S.Lg)then some 15 else some 0
def fg(x:Int)(h:Int):=
 some (decide (x>=1) && decide (x<=99) && decide (h>=1) && decide (h<=999999999))
def nv(x:Int)(a:LQ Range)(h:Int)(H:Int):=
 ck (0<=x/\x<a.length) (some (decide ((nth a x.toNat).source > h) || (nth a x.toNat).source==h && decide ((nth a x.toNat).uW>=H)))
def jn(h:LQ Range)(H:Int)(b:Int)(a:Int)(m:Int):LX (Int×Int ⊕ Int):=
 if decide (a<m)then ck (cR (a+m)) (ck ((0:Int)<=1) ((nv (IntKind.wrap .i64 (Int.fdiv (IntKind.wrap .u64 (a+m)) (2 ^ min (Int.toNat 1) 64))) h H b).bind λy=>if !y then ck (cR (IntKind.wrap .i64 (Int.fdiv (IntKind.wrap .u64 (a+m)) (2 ^ min (Int.toNat 1) 64))+1)) (some (.inl (IntKind.wrap .i64 (Int.fdiv (IntKind.wrap .u64 (a+m)) (2 ^ min (Int.toNat 1) 64))+1,m)))else some (.inl (a,IntKind.wrap .i64 (Int.fdiv (IntKind.wrap .u64 (a+m)) (2 ^ min (Int.toNat 1) 64))))))else some (.inr a)
def mT(F:Int)(a:LQ Range)(h:Int)(H:Int):=
 loop (λs=>jn a h H s.1 s.2) (0,F)
def uh(d:LQ Range)(c:Int)(f:Int):=
 (mT d.length d c f).bind λy=>some y
def xQ(d:LQ Range)(c:Int)(f:Int):=
 (uh d c f).bind λy=>(fg c f).bind λy2=>ck ((y2 && decide (y<d.length))=true->0<=y/\y<d.length) (ck ((y2 && decide (y<d.length) && (nth d y.toNat).source==c)=true->0<=y/\y<d.length) (some (y2 && decide (y<d.length) && (nth d y.toNat).source==c && decide ((nth d y.toNat).from_<=f))))
def mU(S:Range)(I:Range):=
 ck ((S.source==I.source)=true->cR (S.uW+1)) (some (S.source==I.source && S.uW+1==I.from_))
def lX(x:Int)(r:Int)(a:LQ aa)(h:LQ ai):=
 ck (0<=x/\x<a.length) (ck (0<=x/\x<a.length) (ck (h.length+[(⟨(nth a x.toNat).source,(nth a x.toNat).aJ,x,r⟩:ai)].length<=1000000000) (some (h++[⟨(nth a x.toNat).source,(nth a x.toNat).aJ,x,r⟩]))))
def jS(x:Int)(h:Int)(H:Int)(a:LQ Range):=
 ck (0<=x/\x<a.length) (ck (x.toNat<a.length) (some (decide ((nth a x.toNat).source > h) || (nth a x.toNat).source==h && decide ((nth a x.toNat).uW>=H))))
def mu(h:Int)(H:Int)(b:LQ Range)(a:Int)(m:Int):LX (Int×Int ⊕ Int):=
 if decide (a<m)then ck (cR (a+m)) (ck ((0:Int)<=1) ((jS (IntKind.wrap .i64 (Int.fdiv (IntKind.wrap .u64 (a+m)) (2 ^ min (Int.toNat 1) 64))) h H b).bind λy=>if !y then ck (cR (IntKind.wrap .i64 (Int.fdiv (IntKind.wrap .u64 (a+m)) (2 ^ min (Int.toNat 1) 64))+1)) (some (.inl (IntKind.wrap .i64 (Int.fdiv (IntKind.wrap .u64 (a+m)) (2 ^ min (Int.toNat 1) 64))+1,m)))else some (.inl (a,IntKind.wrap .i64 (Int.fdiv (IntKind.wrap .u64 (a+m)) (2 ^ min (Int.toNat 1) 64))))))else some (.inr a)
def lY(F:Int)(a:Int)(h:Int)(H:LQ Range):=
 loop (λs=>mu a h H s.1 s.2) (0,F)
def iI(c:Int)(f:Int)(a:LQ Range):=
 (lY a.length c f a).bind λy=>some y
def tI(c:Int)(f:Int)(a:LQ Range):=
 (iI c f a).bind λy=>(fg c f).bind λy2=>ck ((y2 && decide (y<a.length))=true->0<=y/\y<a.length) (ck ((y2 && decide (y<a.length))=true->y.toNat<a.length) (ck ((y2 && decide (y<a.length) && (nth a y.toNat).source==c)=true->0<=y/\y<a.length) (ck ((y2 && decide (y<a.length) && (nth a y.toNat).source==c)=true->y.toNat<a.length) (some (y2 && decide (y<a.length) && (nth a y.toNat).source==c && decide ((nth a y.toNat).from_<=f))))))
def iq(y:Int)(d:LQ Range):=
 ck (decide (y > 0)=true->cR (y-1)) (ck (decide (y > 0)=true->0<=y-1/\y-1<d.length) (ck (decide (y > 0)=true->(y-1).toNat<d.length) (ck (decide (y > 0)=true->0<=y/\y<d.length) (ck (decide (y > 0)=true->y.toNat<d.length) ((fH (decide (y > 0)) (mU (nth d (y-1).toNat) (nth d y.toNat))).bind λy3=>if decide (y > 0) && y3 then ck (cR (y-1)) (ck (0<=y/\y<d.length) (ck (y.toNat<d.length) (ck (0<=y-1/\y-1<d.length) (ck ((y-1).toNat<d.length) (ck (cR (y+1)) ((mO y (y+1) (d.set (y-1).toNat ⟨(nth d (y-1).toNat).source,(nth d (y-1).toNat).from_,(nth d y.toNat).uW⟩)).bind λy4=>some y4))))))else some d)))))
def gN(v1:Int)(v2:Int)(a:LQ Range):=
 (iI v1 v2 a).bind λy=>(pZ y a [⟨v1,v2,v2⟩]).bind λy2=>ck (cR (y+1)) (ck (decide (y+1<y2.length)=true->0<=y/\y<y2.length) (ck (decide (y+1<y2.length)=true->y.toNat<y2.length) (ck (decide (y+1<y2.length)=true->cR (y+1)) (ck (decide (y+1<y2.length)=true->0<=y+1/\y+1<y2.length) (ck (decide (y+1<y2.length)=true->(y+1).toNat<y2.length) ((fH (decide (y+1<y2.length)) (mU (nth y2 y.toNat) (nth y2 (y+1).toNat))).bind λy5=>if decide (y+1<y2.length) && y5 then ck (cR (y+1)) (ck (0<=y+1/\y+1<y2.length) (ck ((y+1).toNat<y2.length) (ck (0<=y/\y<y2.length) (ck (y.toNat<y2.length) (ck (cR (y+1)) (ck (cR (y+2)) ((mO (y+1) (y+2) (y2.set y.toNat ⟨(nth y2 y.toNat).source,(nth y2 y.toNat).from_,(nth y2 (y+1).toNat).uW⟩)).bind λy6=>iq y y6)))))))else iq y y2))))))
def oL(G:LQ Range)(y:LQ aa)(j:LQ ai):=
 some (G,y,j)
def oM(c:LQ aa)(b:LQ Range)(l:LQ aa)(d:Int)(j:LQ ai):LX (LQ Range×LQ aa×Int×LQ ai ⊕ LQ Range×LQ aa×LQ ai):=
 if decide (d<c.length)then ck (0<=d/\d<c.length) ((fg (nth c d.toNat).source (nth c d.toNat).aJ).bind λy2=>if !y2 then(lX d 6 c j).bind λy3=>ck (cR (d+1)) (some (.inl (b,l,d+1,y3)))else(tI (nth c d.toNat).source (nth c d.toNat).aJ b).bind λy4=>if y4 then(lX d 13 c j).bind λy5=>ck (cR (d+1)) (some (.inl (b,l,d+1,y5)))else(gN (nth c d.toNat).source (nth c d.toNat).aJ b).bind λy6=>ck (l.length+[nth c d.toNat].length<=1000000000) (ck (cR (d+1)) (some (.inl (y6,l++[nth c d.toNat],d+1,j)))))else(oL b l j).map λz=>.inr z
def oN(d:LQ Range)(c:LQ aa):=
 (il d).bind λy=>loop (λs=>oM c s.1 s.2.1 s.2.2.1 s.2.2.2) (y,[],0,[])
def nw(W:Int):=
 some (W != W)
def fK(W:Int)(v:Int):=
 (nw W).bind λy=>(nw v).bind λy2=>if y then if y2 then some 0 else some (-1)else if y2 then some 1 else if decide (W<v)then some (-1)else if decide (W > v)then some 1 else some 0
def qP(u:LQ Int)(b:Int):LX (Int ⊕ Int):=
 if decide (b<u.length)then ck (0<=b/\b<u.length) (if nth u b.toNat != 0 then some (.inr (nth u b.toNat))else ck (cR (b+1)) (some (.inl (b+1))))else some (.inr 0)
def wu(u:LQ Int):=
 loop (λs=>qP u s) 0
def jT(S:aa)(I:aa):=
 (fK S.source I.source).bind λy=>(fK S.call I.call).bind λy2=>(fK S.part I.part).bind λy3=>(wu [y,y2,y3]).bind λy4=>some y4
def cC(t:aa):LX aI:=
 some ⟨t.source,t.call⟩
def nR(t:aa)(a:aI):=
 (cC t).bind λy=>some (jy (aI.gn y) (aI.gn a))
def oO(t:aa):LX aa:=
 some ⟨t.source,t.aJ,t.kind,t.a,t.b,t.start,t.aX,0,0,false,t.cN,t.bz⟩
def fh(t:aa):=
 (dr t).bind λy=>some y.2
def ir(t:aa):LX bm:=
 (cC t).bind λy=>some ⟨y,t.kind,t.a,t.b,t.cN,t.bz⟩
def lj(y:aa)(D:Int):LX (aa×Bool):=
 (fh ⟨y.source,y.aJ,y.kind,y.a,y.b,y.start,D,y.call,y.part,y.last,y.cN,y.bz⟩).bind λy2=>if y2 != 0 then some (⟨0,0,0,[],[],0,0,0,0,false,0,false⟩,false)else some (⟨y.source,y.aJ,y.kind,y.a,y.b,y.start,D,y.call,y.part,y.last,y.cN,y.bz⟩,true)
def lk(a:LQ aa)(y:aa)(d:Int)(f:Int):LX (Int×Int ⊕ aa×Bool):=
 if decide (d<a.length)then ck (0<=d/\d<a.length) ((fH (!(nth a d.toNat).part==0) (fh (nth a d.toNat))).bind λy3=>(fH (!((nth a d.toNat).part==0 || y3 != 0)) (ir (nth a d.toNat))).bind λy4=>ck ((!((nth a d.toNat).part==0 || y3 != 0))=true->(0:Int)<=0/\0<(a.length:Int)) ((fH (!((nth a d.toNat).part==0 || y3 != 0)) (ir (nth a (Int.toNat 0)))).bind λy5=>ck ((!((nth a d.toNat).part==0 || y3 != 0 || !jy (bm.gn y4) (bm.gn y5)))=true->cR (1099511627776-f)) (if(nth a d.toNat).part==0 || y3 != 0 || !jy (bm.gn y4) (bm.gn y5) || decide ((nth a d.toNat).aX > 1099511627776-f)then some (.inr (⟨0,0,0,[],[],0,0,0,0,false,0,false⟩,false))else ck (cR (f+(nth a d.toNat).aX)) (ck (cR (d+1)) (some (.inl (d+1,f+(nth a d.toNat).aX)))))))else(lj y f).map λz=>.inr z
def kK(a:LQ aa):=
 if(a.length:Int)==0 then some (⟨0,0,0,[],[],0,0,0,0,false,0,false⟩,false)else ck ((0:Int)<=0/\0<(a.length:Int)) ((oO (nth a (Int.toNat 0))).bind λy=>loop (λs=>lk a y s.1 s.2) (0,0))
def jo(a:LQ aa):=
 (kK a).bind λy=>some (y.1,y.2)
def jq(a:LQ aa)(b:Int):LX (Int ⊕ aa×Bool):=
 if decide (b<a.length)then ck (0<=b/\b<a.length) (ck (cR (b+1)) (ck (!(nth a b.toNat).part != b+1=true->cR (a.length-1)) (if(nth a b.toNat).part != b+1 || (nth a b.toNat).last != (b==a.length-1)then some (.inr (⟨0,0,0,[],[],0,0,0,0,false,0,false⟩,false))else ck (cR (b+1)) (some (.inl (b+1))))))else(jo a).map λz=>.inr z
def iu(a:LQ aa):=
 loop (λs=>jq a s) 0
def nS(h:aI)(a:LQ aa)(b:Int):LX (Int ⊕ Int):=
 if decide (b<a.length)then ck (0<=b/\b<a.length) (ck (b.toNat<a.length) ((nR (nth a b.toNat) h).bind λy=>if y then some (.inr b)else ck (cR (b+1)) (some (.inl (b+1)))))else some (.inr (-1))
def qQ(a:aI)(h:LQ aa):=
 loop (λs=>nS a h s) 0
def mv(v:aI)(a:LQ aa)(y:Int)(k:Int):LX (Int ⊕ Int×Int):=
 ck (decide (k<a.length)=true->0<=k/\k<a.length) (ck (decide (k<a.length)=true->k.toNat<a.length) ((fH (decide (k<a.length)) (cC (nth a k.toNat))).bind λy2=>if decide (k<a.length) && jy (aI.gn y2) (aI.gn v)then ck (cR (k+1)) (some (.inl (k+1)))else some (.inr (y,k))))
def l7(v:aI)(a:LQ aa):=
 (qQ v a).bind λy=>if decide (y<0)then some (0,0)else loop (λs=>mv v a y s) y
def gZ(a:LQ aa)(p:Bool)(d:LQ (Int×Int))(o:LQ Int)(h:Int):LX (LQ Int×Int ⊕ LQ Int):=
 if !(ak d h).isSome then some (.inr o)else ck (o.length+[(ak d h).getD 0].length<=1000000000) (ck (p=true->0<=(ak d h).getD 0/\(ak d h).getD 0<a.length) (ck (p=true->((ak d h).getD 0).toNat<a.length) (if p && (nth a ((ak d h).getD 0).toNat).last then some (.inr (o++[(ak d h).getD 0]))else ck (cR (h+1)) (some (.inl (o++[(ak d h).getD 0],h+1))))))
def hV(a:LQ aa)(p:Bool)(d:LQ (Int×Int)):=
 loop (λs=>gZ a p d s.1 s.2) ([],1)
def ia(a:LQ aa)(p:Bool)(d:Int)(h:LQ (Int×Int)):LX (Int×LQ (Int×Int) ⊕ LQ Int):=
 if decide (d<a.length)then ck (0<=d/\d<a.length) (ck (d.toNat<a.length) (if !(ak h (nth a d.toNat).part).isSome then ck (cR (d+1)) (some (.inl (d+1,cQ h (nth a d.toNat).part d)))else ck (cR (d+1)) (some (.inl (d+1,h)))))else(hV a p h).map λz=>.inr z
def jU(a:LQ aa)(p:Bool):=
 loop (λs=>ia a p s.1 s.2) (0,[])
def iV(a:LQ aa)(h:LQ aa)(d:LQ (Int×Bool))(j:LQ aa)(l:Int):LX (LQ aa×Int ⊕ LQ aa×LQ aa):=
 if decide (l<a.length)then ck (0<=l/\l<a.length) (ck (l.toNat<a.length) (if !(ak d l).getD false then ck (j.length+[nth a l.toNat].length<=1000000000) (ck (cR (l+1)) (some (.inl (j++[nth a l.toNat],l+1))))else ck (cR (l+1)) (some (.inl (j,l+1)))))else some (.inr (h,j))
def mw(a:LQ aa)(l:LQ aa)(d:LQ (Int×Bool)):=
 loop (λs=>iV a l d s.1 s.2) ([],0)
def my(a:LQ aa)(s:LQ Int)(j:LQ aa)(lr:Int)(d:LQ (Int×Bool)):LX (LQ aa×Int×LQ (Int×Bool) ⊕ LQ aa×LQ aa):=
 if decide (lr<s.length)then ck (0<=lr/\lr<s.length) (ck (0<=nth s lr.toNat/\nth s lr.toNat<a.length) (ck ((nth s lr.toNat).toNat<a.length) (ck (j.length+[nth a (nth s lr.toNat).toNat].length<=1000000000) (ck (cR (lr+1)) (some (.inl (j++[nth a (nth s lr.toNat).toNat],lr+1,cQ d (nth s lr.toNat) true)))))))else(mw a j d).map λz=>.inr z
def pJ(a:LQ aa)(h:LQ Int):=
 loop (λs=>my a h s.1 s.2.1 s.2.2) ([],0,[])
def oQ(S:aI)(l:LQ aa)(n:LQ aa):LX (LQ aa×LQ aa ⊕ LQ aa×LQ aa):=
 (l7 S l).bind λy=>ck (0<=y.1/\y.1<=y.2/\y.2<=l.length) (ck (0<=y.1/\y.1<=y.2/\y.2<=l.length) ((jU ((l.take y.2.toNat).drop y.1.toNat) true).bind λy2=>(pJ ((l.take y.2.toNat).drop y.1.toNat) y2).bind λy3=>(iu y3.1).bind λy4=>if !y4.2 then some (.inr (l,n))else(qJ y.1 y.2 y3.2 l).bind λy5=>ck (n.length+[y4.1].length<=1000000000) (some (.inl (y5,n++[y4.1])))))
def mz(S:aI)(a:LQ aa)(h:LQ aa):=
 loop (λs=>oQ S s.1 s.2) (a,h)
def iW(c:LQ aa)(b:LQ aa)(k:LQ aa)(e:Int)(F:Int):LX (LQ aa×LQ aa×Int ⊕ LQ aa×LQ aa):=
 (oB F b [nth c e.toNat]).bind λy2=>(cC (nth c e.toNat)).bind λy3=>(mz y3 y2 k).bind λy4=>ck (cR (e+1)) (some (.inl (y4.1,y4.2,e+1)))
def iX(c:LQ aa)(b:LQ aa)(k:LQ aa)(e:Int)(g:Int):LX (Int ⊕ LQ aa×LQ aa×Int ⊕ LQ aa×LQ aa):=
 ck (decide (g<b.length)=true->0<=g/\g<b.length) (ck (decide (g<b.length)=true->g.toNat<b.length) ((fH (decide (g<b.length)) (jT (nth b g.toNat) (nth c e.toNat))).bind λy5=>if decide (g<b.length) && decide (y5<=0)then ck (cR (g+1)) (some (.inl (g+1)))else(iW c b k e g).map λz=>.inr z))
def mA(c:LQ aa)(b:LQ aa)(k:LQ aa)(e:Int):=
 if decide (e<c.length)then ck (0<=e/\e<c.length) (if(nth c e.toNat).part==0 then ck (k.length+[nth c e.toNat].length<=1000000000) (ck (cR (e+1)) (some (.inl (b,k++[nth c e.toNat],e+1))))else loop (λs=>iX c b k e s) 0)else some (.inr (k,b))
def l8(L:LQ aa)(c:LQ aa):=
 (eH L).bind λy=>loop (λs=>mA c s.1 s.2.1 s.2.2) (y,[],0)
def nT(a:LQ aa)(S:eD)(l:LQ ai)(w:LQ Int)(c:Int):LX (LQ ai×LQ Int×Int ⊕ LQ Int×LQ ai):=
 if decide (c<a.length)then ck (0<=c/\c<a.length) ((kJ (nth a c.toNat) S).bind λy=>if y != 0 then ck (l.length+[(⟨(nth a c.toNat).source,(nth a c.toNat).aJ,c,y⟩:ai)].length<=1000000000) (ck (cR (c+1)) (some (.inl (l++[⟨(nth a c.toNat).source,(nth a c.toNat).aJ,c,y⟩],w,c+1))))else ck (w.length+[c].length<=1000000000) (ck (cR (c+1)) (some (.inl (l,w++[c],c+1)))))else some (.inr (w,l))
def qR(a:LQ aa)(S:eD):=
 loop (λs=>nT a S s.1 s.2.1 s.2.2) ([],[],0)
def qS(u:dH):=
 (il u.seen).bind λy=>(eH u.open_).bind λy2=>(od u.aZ).bind λy3=>some (y,y2,y3)
def gO(v1:Batch)(y4:LQ Range×LQ aa×LQ Head)(y5:LQ Range×LQ aa×LQ ai)(G:LQ ai):LX (dH×LQ aa×LQ ai×Int):=
 (ru G).bind λy6=>(l8 y4.2.1 y5.2.1).bind λy=>ck (y4.2.2.length+[(⟨v1.source,v1.number,v1.format,v1.records.length⟩:Head)].length<=1000000000) (some (⟨y5.1,y.2,y4.2.2++[⟨v1.source,v1.number,v1.format,v1.records.length⟩]⟩,y.1,y6,0))
def jX(v1:Batch)(y3:LQ Int×LQ ai)(y4:LQ Range×LQ aa×LQ Head)(y5:LQ Range×LQ aa×LQ ai)(b:LQ ai)(l:Int):LX (LQ ai×Int ⊕ dH×LQ aa×LQ ai×Int):=
 if decide (l<y5.2.2.length)then ck (0<=l/\l<y5.2.2.length) (ck (0<=(nth y5.2.2 l.toNat).index/\(nth y5.2.2 l.toNat).index<y3.1.length) (ck (b.length+[(⟨(nth y5.2.2 l.toNat).source,(nth y5.2.2 l.toNat).aJ,nth y3.1 (nth y5.2.2 l.toNat).index.toNat,(nth y5.2.2 l.toNat).err⟩:ai)].length<=1000000000) (ck (cR (l+1)) (some (.inl (b++[⟨(nth y5.2.2 l.toNat).source,(nth y5.2.2 l.toNat).aJ,nth y3.1 (nth y5.2.2 l.toNat).index.toNat,(nth y5.2.2 l.toNat).err⟩],l+1))))))else(gO v1 y4 y5 b).map λz=>.inr z
def gQ(v0:dH)(v1:Batch)(y3:LQ Int×LQ ai)(x:LQ aa):=
 (qS v0).bind λy4=>(oN y4.1 x).bind λy5=>loop (λs=>jX v1 y3 y4 y5 s.1 s.2) (y3.2,0)
def jY(v0:dH)(v1:Batch)(y3:LQ Int×LQ ai)(B:LQ aa)(t:Int):LX (LQ aa×Int ⊕ dH×LQ aa×LQ ai×Int):=
 if decide (t<y3.1.length)then ck (0<=t/\t<y3.1.length) (ck (0<=nth y3.1 t.toNat/\nth y3.1 t.toNat<v1.records.length) (ck (B.length+[nth v1.records (nth y3.1 t.toNat).toNat].length<=1000000000) (ck (cR (t+1)) (some (.inl (B++[nth v1.records (nth y3.1 t.toNat).toNat],t+1))))))else(gQ v0 v1 y3 B).map λz=>.inr z
def nA(v0:dH)(v1:Batch)(v2:eD):=
 (ql v1).bind λy=>if y != 0 then some (⟨ [],[],[]⟩,[],[],y)else(mS v0 v1.source).bind λy2=>if v1.number != y2 then some (⟨ [],[],[]⟩,[],[],20)else(qR v1.records v2).bind λy3=>loop (λs=>jY v0 v1 y3 s.1 s.2) ([],0)
def gw(h:eA):=
 if h.record.bz then some h.record.b else some h.record.a
def fL(h:LQ Int)(x:Int)(b:Int):=
 ck (0<=b/\b<=h.length) (ck ((h.take b.toNat).length<=1000000000) (ck ((h.take b.toNat).length+[x].length<=1000000000) (ck (0<=b/\b<=h.length) (ck ((h.take b.toNat++[x]).length+(h.drop b.toNat).length<=1000000000) (some (h.take b.toNat++[x]++h.drop b.toNat))))))
def oh(b:LQ Int)(x:Int)(c:Int):LX (Int ⊕ LQ Int):=
 ck (decide (c<b.length)=true->0<=c/\c<b.length) (if decide (c<b.length) && decide (nth b c.toNat<x)then ck (cR (c+1)) (some (.inl (c+1)))else(fL b x c).map λz=>.inr z)
def iv(b:LQ Int)(x:Int):=
 loop (λs=>oh b x s) 0
def eP(h:LQ (LQ uA))(x:LQ uA)(b:Int):=
 ck (0<=b/\b<=h.length) (ck ((h.take b.toNat).length<=1000000000) (ck ((h.take b.toNat).length+[x].length<=1000000000) (ck (0<=b/\b<=h.length) (ck ((h.take b.toNat++[x]).length+(h.drop b.toNat).length<=1000000000) (some (h.take b.toNat++[x]++h.drop b.toNat))))))
def ly(b:LQ (LQ uA))(x:LQ uA)(c:Int):LX (Int ⊕ LQ (LQ uA)):=
 ck (decide (c<b.length)=true->0<=c/\c<b.length) (if decide (c<b.length) && mr (nth b c.toNat) x then ck (cR (c+1)) (some (.inl (c+1)))else(eP b x c).map λz=>.inr z)
def fM(b:LQ (LQ uA))(x:LQ uA):=
 loop (λs=>ly b x s) 0
def qy(b:LQ (LQ uA))(x:LQ uA)(h:LQ (LQ uA))(f:Int):LX (LQ (LQ uA)×Int ⊕ LQ (LQ uA)):=
 if decide (f<b.length)then ck (0<=f/\f<b.length) (if nth b f.toNat != x then ck (h.length+[nth b f.toNat].length<=1000000000) (ck (cR (f+1)) (some (.inl (h++[nth b f.toNat],f+1))))else ck (cR (f+1)) (some (.inl (h,f+1))))else some (.inr h)
def kM(b:LQ (LQ uA))(x:LQ uA):=
 loop (λs=>qy b x s.1 s.2) ([],0)
def pK:LX (LQ (Int×aj)×LQ (Int×Sub)×LQ (Int×Bool)×LQ (LQ uA×Int)×LQ (Int×Int)):=
 some ([],[],[],[],[])
def qT(a:LQ Event)(S:Int):=
 some (a,S)
def fA(v1:Sub)(v2:Event)(b:LQ Int)(h:LQ Int)(a:LQ (Int×aj))(H:LQ (Int×Sub))(d:LQ (Int×Bool))(c:LQ (LQ uA×Int))(e:LQ (Int×Int)):=
 if v2.kind==5 then(fM v1.numbers v2.number).bind λy=>some (⟨v1.id,v1.ah,v1.since,v1.uX,y,v1.bD,v1.br,v1.family⟩,cQ c v2.number v2.sub)else if v2.kind==6 then(kM v1.numbers v2.number).bind λy2=>some (⟨v1.id,v1.ah,v1.since,v1.uX,y2,v1.bD,v1.br,v1.family⟩,eG c v2.number)else if v2.kind==7 then some (⟨v1.id,v1.ah,v1.since,v2.name,v1.numbers,v1.bD,v1.br,v1.family⟩,c)else if v2.kind==8 then(fM v1.bD v2.name).bind λy3=>some (⟨v1.id,v1.ah,v1.since,v1.uX,v1.numbers,y3,v1.br,v1.family⟩,c)else if v2.kind==9 then(kM v1.bD v2.name).bind λy4=>some (⟨v1.id,v1.ah,v1.since,v1.uX,v1.numbers,y4,v1.br,v1.family⟩,c)else if v2.kind==10 then some (⟨v1.id,v1.ah,v1.since,v1.uX,v1.numbers,v1.bD,true,v1.family⟩,c)else if v2.kind==11 then some (⟨v1.id,v1.ah,v1.since,v1.uX,v1.numbers,v1.bD,false,v1.family⟩,c)else if v2.kind==12 then some (⟨v1.id,v1.ah,v1.since,v1.uX,v1.numbers,v1.bD,v1.br,true⟩,c)else if v2.kind==13 then some (⟨v1.id,v1.ah,v1.since,v1.uX,v1.numbers,v1.bD,v1.br,false⟩,c)else some (v1,c)
def dR(v1:Event)(b:LQ Int)(a:LQ (Int×aj))(h:LQ (Int×Sub))(c:LQ (Int×Bool))(H:LQ (LQ uA×Int))(d:LQ (Int×Int))(G:LQ Int):=
 some (G,b,cQ a v1.ah ⟨v1.ah,v1.at_,v1.value,v1.name==[112,114,101,112,97,105,100],false,[]⟩,h,c,H,d)
def dS(v1:Event)(h:LQ Int)(a:LQ (Int×aj))(H:LQ (Int×Sub))(c:LQ (Int×Bool))(d:LQ (LQ uA×Int))(b:LQ (Int×Int))(G:LQ Int):=
 ck (cR ((ak b v1.ah).getD 0+1)) (some (h,G,a,cQ H v1.sub ⟨v1.sub,v1.ah,v1.at_,v1.name,[],[],false,false⟩,cQ c v1.sub true,d,cQ b v1.ah ((ak b v1.ah).getD 0+1)))
def cr(v1:Event)(h:LQ Int)(H:LQ Int)(c:LQ (Int×aj))(a:LQ (Int×Sub))(d:LQ (Int×Bool))(b:LQ (Int×Int))(G:LQ (LQ uA×Int)):=
 ck (cR ((ak b ((ak a v1.sub).getD ⟨0,0,0,[],[],[],false,false⟩).ah).getD 0-1)) (some (h,H,c,eG a v1.sub,d,G,cQ b ((ak a v1.sub).getD ⟨0,0,0,[],[],[],false,false⟩).ah ((ak b ((ak a v1.sub).getD ⟨0,0,0,[],[],[],false,false⟩).ah).getD 0-1)))
def fb(v1:Event)(b:LQ Int)(h:LQ Int)(H:LQ (Int×aj))(a:LQ (Int×Sub))(c:LQ (Int×Bool))(d:LQ (Int×Int))(q:Int)(l:LQ (LQ uA×Int)):LX (Int×LQ (LQ uA×Int) ⊕ LQ Int×LQ Int×LQ (Int×aj)×LQ (Int×Sub)×LQ (Int×Bool)×LQ (LQ uA×Int)×LQ (Int×Int)):=
 if decide (q<((ak a v1.sub).getD ⟨0,0,0,[],[],[],false,false⟩).numbers.length)then ck (0<=q/\q<((ak a v1.sub).getD ⟨0,0,0,[],[],[],false,false⟩).numbers.length) (ck (cR (q+1)) (some (.inl (q+1,eG l (nth ((ak a v1.sub).getD ⟨0,0,0,[],[],[],false,false⟩).numbers q.toNat)))))else(cr v1 b h H a c d l).map λz=>.inr z
def dU(v1:Event)(b:LQ Int)(h:LQ Int)(H:LQ (Int×aj))(a:LQ (Int×Sub))(c:LQ (Int×Bool))(e:LQ (LQ uA×Int))(d:LQ (Int×Int))(L:Bool):=
 if L then some (b,h,H,a,c,e,d)else if(ak a v1.sub).isSome then(fA ((ak a v1.sub).getD ⟨0,0,0,[],[],[],false,false⟩) v1 b h H a c e d).bind λy3=>some (b,h,H,cQ a v1.sub y3.1,c,y3.2,d)else some (b,h,H,a,c,e,d)
def eQ(v1:Event)(b:LQ Int)(h:LQ Int)(a:LQ (Int×aj))(H:LQ (Int×Sub))(c:LQ (Int×Bool))(d:LQ (LQ uA×Int))(e:LQ (Int×Int)):=
 if v1.kind==1 then if !(ak a v1.ah).isSome then(iv b v1.ah).bind λy=>dR v1 h a H c d e y else dR v1 h a H c d e b else if v1.kind==2 then some (b,h,cQ a v1.ah ⟨((ak a v1.ah).getD ⟨0,0,0,false,false,[]⟩).id,((ak a v1.ah).getD ⟨0,0,0,false,false,[]⟩).since,((ak a v1.ah).getD ⟨0,0,0,false,false,[]⟩).anchor,((ak a v1.ah).getD ⟨0,0,0,false,false,[]⟩).jN,true,((ak a v1.ah).getD ⟨0,0,0,false,false,[]⟩).aV⟩,H,c,d,e)else if v1.kind==3 then if !(ak c v1.sub).getD false then(iv h v1.sub).bind λy2=>dS v1 b a H c d e y2 else dS v1 b a H c d e h else if v1.kind==4 then loop (λs=>fb v1 b h a H c e s.1 s.2) (0,d)else if v1.kind==14 then dU v1 b h a H c d e (v1.kind==14)else dU v1 b h a H c d e (v1.kind==15)
def gR(e:Event)(z:LQ Int)(h:LQ Int)(a:LQ (Int×aj))(c:LQ (Int×Sub))(H:LQ (Int×Bool))(b:LQ (LQ uA×Int))(d:LQ (Int×Int)):=
 (eQ e z h a c H b d).bind λy=>some (y.1,y.2.1,y.2.2.1,y.2.2.2.1,y.2.2.2.2.1,y.2.2.2.2.2.1,y.2.2.2.2.2.2)
def lA(p:LQ Event)(u:Int)(b:Int)(h:LQ Int)(f:LQ Int)(m:LQ (Int×aj))(A:LQ (Int×Sub))(l:LQ (Int×Bool))(H:LQ (LQ uA×Int))(a:LQ (Int×Int)):LX (Int×LQ Int×LQ Int×LQ (Int×aj)×LQ (Int×Sub)×LQ (Int×Bool)×LQ (LQ uA×Int)×LQ (Int×Int) ⊕ LQ Int×LQ Int×LQ (Int×aj)×LQ (Int×Sub)×LQ (Int×Bool)×LQ (LQ uA×Int)×LQ (Int×Int)):=
 if decide (b<p.length)then ck (0<=b/\b<p.length) (if decide ((nth p b.toNat).at_<=u)then(gR (nth p b.toNat) h f m A l H a).bind λy=>ck (cR (b+1)) (some (.inl (b+1,y.1,y.2.1,y.2.2.1,y.2.2.2.1,y.2.2.2.2.1,y.2.2.2.2.2.1,y.2.2.2.2.2.2)))else ck (cR (b+1)) (some (.inl (b+1,h,f,m,A,l,H,a))))else some (.inr (h,f,m,A,l,H,a))
def iw(p:LQ Event)(u:Int)(z:LQ Int)(h:LQ Int)(a:LQ (Int×aj))(c:LQ (Int×Sub))(H:LQ (Int×Bool))(b:LQ (LQ uA×Int))(d:LQ (Int×Int)):=
 loop (λs=>lA p u s.1 s.2.1 s.2.2.1 s.2.2.2.1 s.2.2.2.2.1 s.2.2.2.2.2.1 s.2.2.2.2.2.2.1 s.2.2.2.2.2.2.2) (0,z,h,a,c,H,b,d)
def eh(b:LQ Int)(a:LQ (Int×aj))(q:LQ Sub)(n:LQ (Int×LQ Int))(g:Int)(x:LQ aj):LX (Int×LQ aj ⊕ eU):=
 if decide (g<b.length)then ck (0<=g/\g<b.length) (ck (x.length+[(⟨((ak a (nth b g.toNat)).getD ⟨0,0,0,false,false,[]⟩).id,((ak a (nth b g.toNat)).getD ⟨0,0,0,false,false,[]⟩).since,((ak a (nth b g.toNat)).getD ⟨0,0,0,false,false,[]⟩).anchor,((ak a (nth b g.toNat)).getD ⟨0,0,0,false,false,[]⟩).jN,((ak a (nth b g.toNat)).getD ⟨0,0,0,false,false,[]⟩).closed,(ak n (nth b g.toNat)).getD []⟩:aj)].length<=1000000000) (ck (cR (g+1)) (some (.inl (g+1,x++[⟨((ak a (nth b g.toNat)).getD ⟨0,0,0,false,false,[]⟩).id,((ak a (nth b g.toNat)).getD ⟨0,0,0,false,false,[]⟩).since,((ak a (nth b g.toNat)).getD ⟨0,0,0,false,false,[]⟩).anchor,((ak a (nth b g.toNat)).getD ⟨0,0,0,false,false,[]⟩).jN,((ak a (nth b g.toNat)).getD ⟨0,0,0,false,false,[]⟩).closed,(ak n (nth b g.toNat)).getD []⟩])))))else some (.inr ⟨x,q⟩)
def bR(b:LQ Int)(a:LQ (Int×aj))(q:LQ Sub)(n:LQ (Int×LQ Int)):=
 loop (λs=>eh b a q n s.1 s.2) (0,[])
def ei(h:LQ Int)(b:LQ Int)(H:LQ (Int×aj))(a:LQ (Int×Sub))(d:Int)(i:LQ Sub)(e:LQ (Int×LQ Int)):LX (Int×LQ Sub×LQ (Int×LQ Int) ⊕ eU):=
 if decide (d<b.length)then ck (0<=d/\d<b.length) (if !(ak a (nth b d.toNat)).isSome then ck (cR (d+1)) (some (.inl (d+1,i,e)))else ck (((ak e ((ak a (nth b d.toNat)).getD ⟨0,0,0,[],[],[],false,false⟩).ah).getD []).length+[nth b d.toNat].length<=1000000000) (ck (i.length+[(ak a (nth b d.toNat)).getD ⟨0,0,0,[],[],[],false,false⟩].length<=1000000000) (ck (cR (d+1)) (some (.inl (d+1,i++[(ak a (nth b d.toNat)).getD ⟨0,0,0,[],[],[],false,false⟩],cQ e ((ak a (nth b d.toNat)).getD ⟨0,0,0,[],[],[],false,false⟩).ah ((ak e ((ak a (nth b d.toNat)).getD ⟨0,0,0,[],[],[],false,false⟩).ah).getD []++[nth b d.toNat])))))))else(bR h H i e).map λz=>.inr z
def eR(b:LQ Int)(h:LQ Int)(a:LQ (Int×aj))(H:LQ (Int×Sub))(c:LQ (Int×Bool))(d:LQ (LQ uA×Int))(e:LQ (Int×Int)):=
 loop (λs=>ei b h a H s.1 s.2.1 s.2.2) (0,[],[])
def dO(a:LQ Event)(S:Int):=
 pK.bind λy=>(qT a S).bind λy2=>(iw y2.1 y2.2 [] [] y.1 y.2.1 y.2.2.1 y.2.2.2.1 y.2.2.2.2).bind λy3=>(eR y3.1 y3.2.1 y3.2.2.1 y3.2.2.2.1 y3.2.2.2.2.1 y3.2.2.2.2.2.1 y3.2.2.2.2.2.2).bind λy4=>some y4
def gU(y:eU)(o:Int)(w:Int)(d:LQ (LQ uA×Int)):LX (Int×LQ (LQ uA×Int) ⊕ Int×LQ (LQ uA×Int) ⊕ LQ (LQ uA×Int)):=
 if decide (w<(nth y.aV o.toNat).numbers.length)then ck (0<=w/\w<(nth y.aV o.toNat).numbers.length) (ck (cR (w+1)) (some (.inl (w+1,cQ d (nth (nth y.aV o.toNat).numbers w.toNat) (nth y.aV o.toNat).id))))else ck (cR (o+1)) (some (.inr (.inl (o+1,d))))
def gV(y:eU)(o:Int)(b:LQ (LQ uA×Int)):=
 if decide (o<y.aV.length)then ck (0<=o/\o<y.aV.length) (loop (λs=>gU y o s.1 s.2) (0,b))else some (.inr b)
def jZ(a:LQ Event)(S:Int):=
 (dO a S).bind λy=>loop (λs=>gV y s.1 s.2) (0,[])
def oR(a:LQ Event)(g:LQ uA)(v:Int):=
 (jZ a v).bind λy=>some ((ak y g).getD 0,(ak y g).isSome)
def kN(F:Int)(y:eU)(e:Int):LX (Int ⊕ Sub×Bool):=
 if decide (e<y.aV.length)then ck (0<=e/\e<y.aV.length) (if(nth y.aV e.toNat).id==F then some (.inr (nth y.aV e.toNat,true))else ck (cR (e+1)) (some (.inl (e+1))))else some (.inr (⟨0,0,0,[],[],[],false,false⟩,false))
def oS(a:LQ Event)(F:Int)(v:Int):=
 (dO a v).bind λy=>loop (λs=>kN F y s) 0
def iY(v:kV):=
 (gw v.source).bind λy=>(oR v.events y v.source.record.start).bind λy2=>if !y2.2 then some (⟨0,0,0,[],[],[],false,false⟩,false)else(oS v.events y2.1 v.source.record.start).bind λy3=>some (y3.1,y3.2)
def kq(h:eA)(F:Int)(G:Sub):LX bC:=
 some ⟨F,h.record.kind,G.ah,G.id,h.record.a,h.record.b,h.record.start,h.record.aX,h.record.cN,h.record.bz,h.record.source,h.record.aJ⟩
def jr(a:LQ Event)(v:aa)(h:Int):=
 (fh v).bind λy=>if y != 0 then some (⟨0,0,0,0,[],[],0,0,0,false,0,0⟩,y)else if v.part != 0 then some (⟨0,0,0,0,[],[],0,0,0,false,0,0⟩,8)else(iY ⟨ ⟨v⟩,a⟩).bind λy2=>if !y2.2 then some (⟨0,0,0,0,[],[],0,0,0,false,0,0⟩,11)else if y2.1.br && !v.bz then some (⟨0,0,0,0,[],[],0,0,0,false,0,0⟩,16)else(kq ⟨v⟩ h y2.1).bind λy3=>some (y3,0)
def l9(a:LQ Event)(v:aM):=
 (il v.aw.seen).bind λy=>(eH v.aw.open_).bind λy2=>(od v.aw.aZ).bind λy3=>(wa v.usages).bind λy4=>(ua v.cX).bind λy5=>some (y,y2,y3,y4,y5,a,v.bc)
def eS(c:LQ aa)(h:LQ Event)(b:LQ bC)(l:LQ aa)(f:Int):LX (LQ bC×LQ aa×Int ⊕ LQ bC×LQ aa):=
 if decide (f<c.length)then ck (0<=f/\f<c.length) (ck (cR (b.length+1)) ((jr h (nth c f.toNat) (b.length+1)).bind λy=>if y.2==0 then ck (b.length+[y.1].length<=1000000000) (ck (cR (f+1)) (some (.inl (b++[y.1],l,f+1))))else ck (l.length+[nth c f.toNat].length<=1000000000) (ck (cR (f+1)) (some (.inl (b,l++[nth c f.toNat],f+1))))))else some (.inr (b,l))
def fO(c:LQ aa)(H:LQ Range)(J:LQ aa)(d:LQ Head)(b:LQ Event)(a:LQ bC)(h:LQ aa)(e:LQ ai):=
 loop (λs=>eS c b s.1 s.2.1 s.2.2) (a,h,0)
def js(v0:LQ Event)(v1:aM)(v2:Batch)(v3:eD):LX (aM×Int):=
 (nA v1.aw v2 v3).bind λy=>if y.2.2.2 != 0 then some (⟨ ⟨ [],[],[]⟩,[],[],[]⟩,y.2.2.2)else(l9 v0 v1).bind λy2=>(eH y2.2.2.2.2.2.2).bind λy3=>ck (y2.2.2.2.2.1.length+y.2.2.1.length<=1000000000) ((fO y.2.1 y.1.seen y.1.open_ y.1.aZ y2.2.2.2.2.2.1 y2.2.2.2.1 y3 (y2.2.2.2.2.1++y.2.2.1)).bind λy4=>some (⟨y.1,y4.1,y4.2,y2.2.2.2.2.1++y.2.2.1⟩,0))
def ma(d:LQ Range)(m:Int)(b:Int):LX (Int×Int ⊕ Int):=
 if decide (b<d.length)then ck (0<=b/\b<d.length) (ck (cR ((nth d b.toNat).uW-(nth d b.toNat).from_)) (ck (cR ((nth d b.toNat).uW-(nth d b.toNat).from_+1)) (ck (cR (m+((nth d b.toNat).uW-(nth d b.toNat).from_+1))) (ck (cR (b+1)) (some (.inl (m+((nth d b.toNat).uW-(nth d b.toNat).from_+1),b+1)))))))else some (.inr m)
def qm(d:LQ Range):=
 loop (λs=>ma d s.1 s.2) (0,0)
def j0(q:aM)(G:Int):LX lR:=
 (qm q.aw.seen).bind λy=>ck (cR (y-q.usages.length)) (ck (cR (y-q.usages.length-q.bc.length)) (ck (cR (y-q.usages.length-q.bc.length-q.aw.open_.length)) (some ⟨G,q.usages.length,y-q.usages.length-q.bc.length-q.aw.open_.length,q.cX.length,q.bc.length,q.aw.open_.length⟩)))
def gx(q:aM)(x:Int)(m:Int):LX (Int×Int ⊕ lR):=
 if decide (x<q.aw.aZ.length)then ck (0<=x/\x<q.aw.aZ.length) (ck (cR (m+(nth q.aw.aZ x.toNat).count)) (ck (cR (x+1)) (some (.inl (x+1,m+(nth q.aw.aZ x.toNat).count)))))else(j0 q m).map λz=>.inr z
def iZ(q:aM):=
 loop (λs=>gx q s.1 s.2) (0,0)
def fP(y5:aM×Int)(d:Int)(m:Int):LX (Int ⊕ Int ⊕ Int×Int×LQ Range×LQ aa×LQ Head×LQ bC×LQ aa×LQ ai ⊕ Bool):=
 if decide (m<d)then ck (0<=m/\m<y5.1.usages.length) (ck (0<=d/\d<y5.1.usages.length) (ck ((!(nth y5.1.usages m.toNat).id==(nth y5.1.usages d.toNat).id)=true->0<=m/\m<y5.1.usages.length) (ck (!(nth y5.1.usages m.toNat).id==(nth y5.1.usages d.toNat).id=true->0<=d/\d<y5.1.usages.length) (ck ((!(nth y5.1.usages m.toNat).id==(nth y5.1.usages d.toNat).id && (nth y5.1.usages m.toNat).source==(nth y5.1.usages d.toNat).source)=true->0<=m/\m<y5.1.usages.length) (ck ((!(nth y5.1.usages m.toNat).id==(nth y5.1.usages d.toNat).id && (nth y5.1.usages m.toNat).source==(nth y5.1.usages d.toNat).source)=true->0<=d/\d<y5.1.usages.length) (if(nth y5.1.usages m.toNat).id==(nth y5.1.usages d.toNat).id || (nth y5.1.usages m.toNat).source==(nth y5.1.usages d.toNat).source && (nth y5.1.usages m.toNat).aJ==(nth y5.1.usages d.toNat).aJ then some (.inr (.inr (.inr false)))else ck (cR (m+1)) (some (.inl (m+1)))))))))else ck (cR (d+1)) (some (.inr (.inl (d+1))))
def fQ(o:Int)(b:Int)(y3:Batch×LQ ai×Int)(y5:aM×Int)(d:Int):=
 if decide (d<y5.1.usages.length)then loop (λs=>fP y5 d s) 0 else ck (cR (b+1)) (some (.inr (.inl (o+y3.1.records.length,b+1,y5.1.aw.seen,y5.1.aw.open_,y5.1.aw.aZ,y5.1.usages,y5.1.bc,y5.1.cX))))
def eF(v0:LQ Event)(v1:LQ (LQ uA))(o:Int)(b:Int)(h:LQ Range)(g:LQ aa)(n:LQ Head)(x:LQ bC)(H:LQ aa)(a:LQ ai):=
 if decide (b<v1.length)then ck (0<=b/\b<v1.length) (ck ((nth v1 b.toNat).length<=1000000000) ((rD (nth v1 b.toNat)).bind λy3=>if y3.2.2 != 0 then ck (cR (b+1)) (some (.inl (o,b+1,h,g,n,x,H,a)))else ck (v0.length<=1000000000) ((og ⟨ ⟨h,g,n⟩,x,H,a⟩).bind λy4=>(js v0 y4 y3.1 ⟨0,1073741824⟩).bind λy5=>if y5.2 != 0 then ck (cR (b+1)) (some (.inl (o,b+1,h,g,n,x,H,a)))else ck (cR (o+y3.1.records.length)) ((og y5.1).bind λy6=>(iZ y6).bind λy=>ck ((!y.read != o+y3.1.records.length)=true->cR (y.accepted+y.merged)) (ck (!y.read != o+y3.1.records.length=true->cR (y.accepted+y.merged+y.rejected)) (ck ((!y.read != o+y3.1.records.length)=true->cR (y.accepted+y.merged+y.rejected+y.br)) (ck (!y.read != o+y3.1.records.length=true->cR (y.accepted+y.merged+y.rejected+y.br+y.open_)) (if y.read != o+y3.1.records.length || y.accepted+y.merged+y.rejected+y.br+y.open_ != o+y3.1.records.length || y.accepted != y5.1.usages.length || y.br != y5.1.bc.length || y.rejected != y5.1.cX.length || y.open_ != y5.1.aw.open_.length then some (.inr false)else ck (v0.length<=1000000000) ((og y5.1).bind λy8=>(js v0 y8 y3.1 ⟨0,1073741824⟩).bind λy9=>if y9.2 != 20 then some (.inr false)else loop (λs=>fQ o b y3 y5 s) 0)))))))))else DK.bind λL=>some (.inr L)
def lB(v0:LQ Event)(v1:LQ (LQ uA)):=
 (wk v0 v1).bind λy=>if !y then DK.bind λy2=>some y2 else loop (λs=>eF v0 v1 s.1 s.2.1 s.2.2.1 s.2.2.2.1 s.2.2.2.2.1 s.2.2.2.2.2.1 s.2.2.2.2.2.2.1 s.2.2.2.2.2.2.2) (0,0,[],[],[],[],[],[])
instance:Rw aj:=⟨aj.row⟩
instance:Rw lR:=⟨lR.row⟩
instance:Rw Batch:=⟨Batch.row⟩
instance:Rw aA:=⟨aA.row⟩
instance:Rw aI:=⟨aI.row⟩
instance:Rw bm:=⟨bm.row⟩
instance:Rw eU:=⟨eU.row⟩
instance:Rw Element:=⟨Element.row⟩
instance:Rw eA:=⟨eA.row⟩
instance:Rw kV:=⟨kV.row⟩
instance:Rw Event:=⟨Event.row⟩
instance:Rw Head:=⟨Head.row⟩
instance:Rw dH:=⟨dH.row⟩
instance:Rw aM:=⟨aM.row⟩
instance:Rw kW:=⟨kW.row⟩
instance:Rw Range:=⟨Range.row⟩
instance:Rw aa:=⟨aa.row⟩
instance:Rw ai:=⟨ai.row⟩
instance:Rw Sub:=⟨Sub.row⟩
instance:Rw fE:=⟨fE.row⟩
instance:Rw bC:=⟨bC.row⟩
instance:Rw eD:=⟨eD.row⟩
instance:Rw uA:=⟨eW⟩
instance:Rw Int:=⟨rI⟩
instance:Rw (List uA):=⟨rS⟩
end Go.Proofs.YtleflofddacmdaaGreatDoor
namespace Go.Proofs.YtleflofddacmdaaGreatDoor
open Go.RowKit Go.Abs Go.Proofs.Tryz
def db(base:Nat)(w:uC)(v:uB)(n:Nat)(xs:LQ uB)(v':uB)(w':uC):=
 w'.ownsRow base 94 12 v' n xs/\(v'.ownBlock=v.ownBlock/\w'.heap.size=w.heap.size/\w.grownBy w' v.ownBlock∨v'.ownBlock=some w.heap.size/\Below w.heap.size w w')
def uj{base m w u ys}(hu:w.ownsRow base 94 12 u m ys)(h1:∀y∈ys,y.oneCell'=true):Go.Abs.Src prog w 12 u m ys:=by
 rcases hu.2 with⟨rfl,rfl⟩|⟨b,cap,c,rfl,a,d,D,A,s,E⟩
 .have:ys=[]:=zax (by simpa using hu.1);subst this;exact⟨rfl,λw' _=>run_firstCells_none w' _ 0 0 _,by simp,by simp⟩
 .refine⟨rfl,λw' h=>run_firstCells_some w' _ m _ m cap ys hu.1 λj y H=>?_,hu.1,h1⟩;rw[World.cell?_of_block (w:=w) (by rw[h])];exact hu.cells (g:=b) rfl j y H
def I2 w{base n m:Nat}{v u xs ys}(hs:w.ownsRow base 94 12 v n xs)(hu:w.ownsRow base 94 12 u m ys)(hm:0<m)(j:n+m<=1000000000)(k:base<=w.heap.size)(h1:∀y∈ys,y.oneCell'=true):
  Calls prog 145 #[v,.int .i64 n,u] w λe w'=>∃v',e=.returned v'/\db base w v (n+m) (xs++ys) v' w':=by
 have t:=underlying3;have t22:=underlying27;have l:=run_underlying underlying3;have a:=run_underlying underlying27;have J:¬((m:Int)=0):=by omega
 obtain⟨i,hi,d,dE,B⟩:=pd;obtain⟨v',w',h,f,_,H⟩:=jA (P:=prog) (ty:=27) w underlying27 underlying27 (.inr ⟨_,rfl⟩) hi d dE (by rfl) hs (uj hu h1) (by simp only[maxLen];omega) (by rw[B];omega) k;rcases hu.2 with⟨_,h0⟩|⟨vb,vc,D,rfl,_⟩
 .omega
 rcases hs.2 with⟨rfl,rfl⟩|⟨b,c,g,rfl,F,o,p,A,s,E⟩
 .go_enter func145,ntmps145
  go_wp2_with (at_builtin;refine Lib.wpList_append_run _ rfl _ _ _ _ rfl _ _ rfl rfl _ _ h ?_)
  go_ret;exact⟨_,rfl,f,H⟩
 .go_enter func145,ntmps145
  go_wp2_with (at_builtin;refine Lib.wpList_append_run _ rfl _ _ _ _ rfl _ _ rfl rfl _ _ h ?_)
  all_goals (go_ret;exact⟨_,rfl,f,H⟩)
def ic{w:uC}{base b n c xs}(hs:w.ownsRow base 94 12 (.slice (some ⟨b,0,none⟩) n c) n xs):base<=b/\n<=c/\c<=maxLen/\∃H:uD uB,w.heap[b]?=some (.cells H 94 (0,0))/\H.size=c*12/\H.toList.take (n*12)=xs:=by
 rcases hs.2 with⟨h,_⟩|⟨b',d,H,h,F,a,D,A,s,E⟩
 .cases h
 .cases h;exact⟨F,D,A,H,a,s,E⟩
def I3 w{b vb m vc o l cb cs:Nat}{cur D}(d:vb≠b)(h:w.heap[b]?=some (.cells cur 94 (0,0)))(U:w.heap[vb]?=some (.cells D 94 (0,0)))(hk:cur.size≠0):
  (callFunc 266 #[.slice (some ⟨vb,0,none⟩) m vc,.slice (some ⟨b,o,none⟩) l cb]).run prog w=.ok (.value (.bool false)) w:=by
 obtain⟨i,hi,H,dE,B⟩:=pd;rw[run_callFunc_extern func266 (by kernel_rfl) (by kernel_rfl) (by kernel_rfl) (e:=Extern.SlicesOverlaps.overlaps #[27,27] #[4]) (by kernel_rfl),
  Lib.run_overlaps_apart w 27 4 94 underlying27 12 (λw'=>by simp[sizeOf,typeInfo,hi,dE]) ⟨vb,0,none⟩ ⟨b,o,none⟩ m vc l cb d 94 94 D.size cur.size (by simp[World.shape?,U]) (by simp[World.shape?,h]) hk (by simp[World.frozen?,U]) (by simp[World.frozen?,U])]
 rfl
def Fj w{base b n c i vb m vc xs ys}(hs:w.ownsRow base 94 12 (.slice (some ⟨b,0,none⟩) n c) n xs)(hu:w.ownsRow base 94 12 (.slice (some ⟨vb,0,none⟩) m vc) m ys)(C:vb≠b)(hi:i<n)(hm:0<m)(hb:n+m<=1000000000)(R:n+m<=c)
  (S:∀x∈xs,x.oneCell'=true) (h1:∀y∈ys,y.oneCell'=true) :
  Calls prog 145 #[.slice (some ⟨b,0,none⟩) n c,.int .i64 i,.slice (some ⟨vb,0,none⟩) m vc] w λe w'=>∃v',e=.returned v'/\db base w (.slice (some ⟨b,0,none⟩) n c) (n+m) (xs.take (i*12)++ys++xs.drop (i*12)) v' w':=by
 have t3:=underlying3;have t22:=underlying27;have u3:=run_underlying underlying3;have T:=run_underlying underlying27;obtain⟨U,Dj,V,cur,p,s,Y⟩:=ic hs;obtain⟨_,Z,_,D3,UR,D,E⟩:=ic hu;obtain⟨inf,q,hz,dE,Bh⟩:=pd;simp only[maxLen]at V;have z32:∀w,(Go.sizeOf 94).run prog w=.ok 12 w:=λw'=>by simp[sizeOf,typeInfo,q,dE]
 have JK:¬((m:Int)=0):=by omega
 have hz2:¬((i:Int)=(n:Int)):=by omega
 have r:=s7;have hw1:IntKind.i64.wrap ((i:Int)+(m:Int))=(i:Int)+(m:Int):=by rw[IntKind.wrap_i64];omega
 have IN:(0:Int)<=(i:Int)+(m:Int):=by omega
 have Db:i<=n:=by omega
 have htn:((i:Int)+(m:Int)).toNat=i+m:=by omega
 have E7:¬(c=i+m):=by omega
 have hb3:(i:Int)<=(n:Int)+(m:Int):=by omega
 have hb4:¬(c=i):=by omega
 have t:cur.size≠0:=by rw[s];omega
 have u:=hs.1;have l:=hu.1;have z:∀o F cb,(callFunc 266 #[.slice (some ⟨vb,0,none⟩) m vc,.slice (some ⟨b,o,none⟩) F cb]).run prog w=.ok (.value (.bool false)) w:=λo F cb=>I3 (cs:=0) w C p UR t
 -- the first copy
 have B5:∀j x,xs[j]?=some x->w.cell? ⟨b,j,none⟩=some x:=λj x H=>by have:=hs.cells (g:=b) rfl j x H;rwa [Addr.add_lit,zbh]at this
 have QB:∀j v,(xs.drop (i*12))[j]?=some v->w.cell? (Addr.add ⟨b,i*12,none⟩ j)=some v:=λj v H=>by
  rw[zbd]at H;rw[Addr.add_lit];exact B5 _ _ H
 have X:Nat.min (n+m-i) (n+m-(i+m))=n-i:=pX (by omega);have a:Nat.min m (n+m-i)=m:=pX (by omega);have G:(xs.drop (i*12)).length=Nat.min (n+m-i) (n+m-(i+m))*12:=by rw[zbc,u,X];omega
 have I:∀(W:uC),W.heap=w.heap->∀ty d J,(Builtin.copy_ #[27,27] ty #[.slice (some ⟨b,(i+m)*12,none⟩) (n+m-(i+m)) d,.slice (some ⟨b,i*12,none⟩) (n+m-i) J]).run prog W=.ok (goInt (Nat.min (n+m-i) (n+m-(i+m)))) (W.setRow b (laid cur.toList ((i+m)*12) (xs.drop (i*12))).toArray):=λW K ty d J =>
  lQ W underlying27 q dE (by rw[K];exact p) G (λj v H=>by rw[World.cell?_of_block (w:=w) (by rw[K])];exact QB j v H) (λv hv=>S v (zca hv)) (by rw[G,s,X];omega)
 generalize M:laid cur.toList ((i+m)*12) (xs.drop (i*12))=L at I;have f:cur.toList.length=c*12:=by simpa using s
 have A:(i+m)*12+(xs.drop (i*12)).length<=cur.toList.length:=by rw[zbc,u,f];omega
 have N:L.length=cur.toList.length:=by rw[←M];exact gI A
 have Di:∀j v,ys[j]?=some v->w.cell? (Addr.add ⟨vb,0,none⟩ j)=some v:=λj v H=>hu.cells (g:=vb) rfl j v H
 have NM:∀(W:uC),W.heap[b]?=some (.cells L.toArray 94 (0,0))->(∀x:Addr,x.block≠b->W.cell? x=w.cell? x)->∀ty d,(Builtin.copy_ #[27,27] ty #[.slice (some ⟨b,i*12,none⟩) (n+m-i) d,.slice (some ⟨vb,0,none⟩) m vc]).run prog W=.ok (goInt (Nat.min m (n+m-i))) (W.setRow b (laid L (i*12) ys).toArray):=λW XC XD ty d =>
  lQ W underlying27 q dE XC (by rw[l,a]) (λj v H=>by rw[XD _ (by rw[Addr.add_lit];exact C)];exact Di j v H) h1 (by simp only[zbp];omega)
 have P:((w.drew).setRow b L.toArray).heap[b]?=some (.cells L.toArray 94 (0,0)):=setRow_heap w.drew b cur _ 94 (0,0) p;have vK:∀x:Addr,x.block≠b->((w.drew).setRow b L.toArray).cell? x=w.cell? x:=λx hx=>World.cell?_of_block (w:=w) (setRow_other w.drew b x.block _ hx)
 have oo:db base w (.slice (some ⟨b,0,none⟩) n c) (n+m) (xs.take (i*12)++ys++xs.drop (i*12)) (.slice (some ⟨b,0,none⟩) (n+m) c) (((w.drew).setRow b L.toArray).setRow b (laid L (i*12) ys).toArray):=by
  have O:i*12+ys.length<=L.length:=by rw[l,N,f];omega
  refine⟨⟨by simp only[zar,zaw,zbc];omega,.inr ⟨b,c,_,rfl,U,setRow_heap _ b _ _ 94 (0,0) P,R,by simp only[maxLen];omega,by rw[zbp,gI O,N,f],?_⟩⟩,
   .inl ⟨rfl,by simp,⟨rfl,rfl,rfl,by simp,λk hk Q=>?_⟩⟩⟩
  .rw[zdd,ib O (by rw[l];omega),←M];have e1:(laid cur.toList ((i+m)*12) (xs.drop (i*12))).take (i*12)=xs.take (i*12):=by
    apply zbv;intro j;rw[zah,zah,xE A];by_cases h:j<i*12
    .rw[zab h,zab h,zaa (by omega),←Y,zah,zab (by omega)]
    .rw[zaa h,zaa h]
   rw[e1];congr 1;rw[ib A (by rw[zbc,u];omega),l];apply zbv;intro j;rw[zbd];have B:(List.take ((i+m)*12) cur.toList).length=(i+m)*12:=by rw[zaw,f];omega
   by_cases h:j<(n-i)*12
   .rw[zaj (by rw[zar,B,zbc,u];omega),zan (by rw[B];omega),B];congr 1;omega
   .rw[zbu (by simp only[zar,zbc,zaw,f,u];omega),zbu (by rw[zbc,u];omega)]
  .rw[setRow_other _ b k _ (λe=>Q (by rw[e];rfl)),setRow_other _ b k _ (λe=>Q (by rw[e];rfl))];rfl
 have XE:=I w.drew rfl;have XF:=NM _ P vK;go_enter func145,ntmps145
 go_wp2_with (simp only[z])
 go_region_law_o (refine kU rfl _ _ 27 27 rfl _ _ (by simp[Act.eval,Act.put]) (by simp[Act.eval,Act.put]) (XE _ _ _) ?_)
 go_wp2_with (at_builtin;refine iH _ rfl _ _ 27 27 rfl _ _ rfl rfl (XF _ _) ?_)
 go_ret;exact⟨_,rfl,oo⟩
def G7 w{base b n c i vb m vc xs ys}(hs:w.ownsRow base 94 12 (.slice (some ⟨b,0,none⟩) n c) n xs)(hu:w.ownsRow base 94 12 (.slice (some ⟨vb,0,none⟩) m vc) m ys)(hi:i<n)(hm:0<m)(hb:n+m<=1000000000)(gF:c<n+m)(kA:base<=w.heap.size)
  (Ff:∀x∈xs,x.oneCell'=true) (h1:∀y∈ys,y.oneCell'=true) :
  Calls prog 145 #[.slice (some ⟨b,0,none⟩) n c,.int .i64 i,.slice (some ⟨vb,0,none⟩) m vc] w λe w'=>∃v',e=.returned v'/\db base w (.slice (some ⟨b,0,none⟩) n c) (n+m) (xs.take (i*12)++ys++xs.drop (i*12)) v' w':=by
 have t3:=underlying3;have t22:=underlying27;have u3:=run_underlying underlying3;have u22:=run_underlying underlying27;obtain⟨FF,Dj,An,cur,hg,sZ,EG⟩:=ic hs;obtain⟨_,hvc,_,D3,UR,R,S⟩:=ic hu;obtain⟨inf,F,T,dE,U⟩:=pd;simp only[maxLen]at An;have mixed:=s7;have JK:¬((m:Int)=0):=by omega
 have hz2:¬((i:Int)=(n:Int)):=by omega
 have NN:(c:Int)<(n:Int)+(m:Int):=by omega
 have I:b<w.heap.size:=(hs.lt b rfl).2;have J:vb<w.heap.size:=(hu.lt vb rfl).2;have V:(n:Int)+(m:Int) - (i:Int)=((n+m-i:Nat):Int):=by omega
 have l:i+(n+m-i)=n+m:=by omega
 have Y:=hs.1;have s:=hu.1;have Z:∀j x,xs[j]?=some x->w.cell? ⟨b,j,none⟩=some x:=λj x H=>by have:=hs.cells (g:=b) rfl j x H;rwa [Addr.add_lit,zbh]at this
 have f:(Builtin.firstCells inf.size i (.slice (some ⟨b,0,none⟩) i c)).run prog w.drew=.ok (xs.take (i*12)).toArray w.drew:=by
  rw[dE];refine run_firstCells_some w.drew 12 i ⟨b,0,none⟩ i c (xs.take (i*12)) (by rw[zaw];omega) (λj v H=>?_);rw[Addr.add_lit,zbh];rw[zah]at H;split at H
  .exact Z j v H
  .cases H
 generalize K:(Value.agg _)=zv at T;have Bx:zv.cells.size=12:=by rw[←K];rfl
 have o:∀ty,(Builtin.append_ #[27,3] ty #[.slice (some ⟨b,0,none⟩) i c,.int .i64 ((n:Int)+(m:Int) - (i:Int))]).run prog w =
   .ok (.slice (some ⟨w.heap.size,0,none⟩) (n+m) (grownCap w (n+m) c 94)) (w.drew.alloc (.cells ((xs.take (i*12)).toArray++Builtin.zeroCells zv.cells (n+m-i)++Builtin.zeroCells zv.cells (grownCap w (n+m) c 94-(n+m))) 94)):=λty=>by
  have h:=Lib.run_append_grow_zeros w 27 3 ty 94 inf zv .i64 .i64 underlying27 underlying3 F T (some ⟨b,0,none⟩) i c (xs.take (i*12)) f (n+m-i) (by omega) (by omega) (by omega) (by omega) (by rw[U];omega) (by rw[l];exact growslice_fits gF (by rw[U];omega));rw[l]at h;rw[V];exact h
 have t:n+m<=grownCap w (n+m) c 94:=grownCap_ge w _ _ _;have XG:grownCap w (n+m) c 94<=maxLen:=grownCap_le_maxLen w (n+m) c 94 (by unfold maxLen;omega);generalize grownCap w (n+m) c 94=G at o t XG;simp only[maxLen]at XG;generalize a:(xs.take (i*12)).toArray++Builtin.zeroCells zv.cells (n+m-i)++Builtin.zeroCells zv.cells (G-(n+m))=u at o;have z:u.size=G*12:=by
  rw[←a];simp only[Array.size_append,zbp,zaw,size_zeroCells,Bx,Y];omega
 have M:u.toList.take (i*12)=xs.take (i*12):=by
  rw[←a];simp only[zge,zas];rw[zeb (by rw[zaw];omega),zbj (by rw[zaw];omega)]
 have p:u.toList.length=G*12:=by simpa using z
 have N:Nat.min m (n+m-i)=m:=pX (by omega);have O:Nat.min (n-i) (n+m-(i+m))=n-i:=pX (by omega);have E:(xs.drop (i*12)).length=(n-i)*12:=by rw[zbc,Y];omega
 have NO:i*12+ys.length<=u.toList.length:=by rw[s,p];omega
 have XH:∀(W:uC),W.heap[w.heap.size]?=some (.cells u 94 (0,0))->(∀x:Addr,x.block<w.heap.size->W.cell? x=w.cell? x)->∀ty A,(Builtin.copy_ #[27,27] ty #[.slice (some ⟨w.heap.size,i*12,none⟩) (n+m-i) A,.slice (some ⟨vb,0,none⟩) m vc]).run prog W=.ok (goInt (Nat.min m (n+m-i))) (W.setRow w.heap.size (laid u.toList (i*12) ys).toArray):=λW X P ty A =>
  lQ W underlying27 F dE X (by rw[s,N]) (λj v H=>by rw[P _ (by rw[Addr.add_lit];exact J)];exact hu.cells (g:=vb) rfl j v H) h1 (by rw[s,z];omega)
 generalize BF:laid u.toList (i*12) ys=L at XH;have EW:L.length=u.toList.length:=by rw[←BF];exact gI NO
 have NP:(i+m)*12+(xs.drop (i*12)).length<=L.length:=by rw[E,EW,p];omega
 have XI:∀(W:uC),W.heap[w.heap.size]?=some (.cells L.toArray 94 (0,0))->(∀x:Addr,x.block<w.heap.size->W.cell? x=w.cell? x)->∀ty A sc,(Builtin.copy_ #[27,27] ty #[.slice (some ⟨w.heap.size,(i+m)*12,none⟩) (n+m-(i+m)) A,.slice (some ⟨b,i*12,none⟩) (n-i) sc]).run prog W=.ok (goInt (Nat.min (n-i) (n+m-(i+m)))) (W.setRow w.heap.size (laid L ((i+m)*12) (xs.drop (i*12))).toArray):=λW X P ty A sc =>
  lQ W underlying27 F dE X (by rw[E,O]) (λj v H=>by
   rw[P _ (by rw[Addr.add_lit];exact I),Addr.add_lit];rw[zbd]at H;exact Z _ _ H) (λv hv=>Ff v (zca hv)) (by simp only[zbp];omega)
 generalize xx:laid L ((i+m)*12) (xs.drop (i*12))=L2 at XI;have Wf:L2.length=L.length:=by rw[←xx];exact gI NP
 have B7:∀W:uC,W.heap=w.heap.push (.cells u 94 (0,0))->W.heap[w.heap.size]?=some (.cells u 94 (0,0)):=λW d=>by rw[d];simp
 have B:∀W:uC,W.heap=w.heap.push (.cells u 94 (0,0))->∀x:Addr,x.block<w.heap.size->W.cell? x=w.cell? x:=λW d x hx=>World.cell?_of_block (w:=w) (by rw[d,zee hx];simp[hx]);have C:∀W:uC,W.heap=w.heap.push (.cells u 94 (0,0))->(W.setRow w.heap.size L.toArray).heap[w.heap.size]?=some (.cells L.toArray 94 (0,0)):=λW d=>setRow_heap W _ u _ 94 (0,0) (B7 W d)
 have V4:∀W:uC,W.heap=w.heap.push (.cells u 94 (0,0))->∀x:Addr,x.block<w.heap.size->(W.setRow w.heap.size L.toArray).cell? x=w.cell? x:=λW d x hx=>(World.cell?_of_block (w:=W) (setRow_other W _ x.block _ (by omega))).trans (B W d x hx)
 have oo:∀W q:uC,W.heap=w.heap.push (.cells u 94 (0,0))->W.os=w.os->W.tape=w.tape->W.output=w.output->q.heap=(W.setRow w.heap.size L.toArray).heap->q.os=w.os->q.tape=w.tape->q.output=w.output ->
   db base w (.slice (some ⟨b,0,none⟩) n c) (n+m) (xs.take (i*12)++ys++xs.drop (i*12)) (.slice (some ⟨w.heap.size,0,none⟩) (n+m) G) (q.setRow w.heap.size L2.toArray):=by
  intro W q d ho ht hou r V3 Am D;have Q:q.heap[w.heap.size]?=some (.cells L.toArray 94 (0,0)):=by rw[r];exact C W d
  refine⟨⟨by simp only[zar,zaw,zbc];omega,.inr ⟨w.heap.size,G,_,rfl,kA,setRow_heap _ _ _ _ 94 (0,0) Q,t,by simp only[maxLen];omega,by rw[zbp,Wf,EW,p],?_⟩⟩,
   .inr ⟨rfl,⟨V3,Am,D,by simp[r,d],λk hk=>?_⟩⟩⟩
  .have e2:(L.take ((n+m)*12)).drop ((i+m)*12+(xs.drop (i*12)).length)=[]:=zch (by rw[zaw,E];omega);rw[zdd,←xx,ib NP (by rw[E];omega),e2,←BF];have e1:(laid u.toList (i*12) ys).take ((i+m)*12)=xs.take (i*12)++ys:=by
    rw[ib NO (by rw[s];omega),M,s,zch (by rw[zaw];omega),zbr]
   rw[e1,zbr]
  .rw[setRow_other _ _ k _ (by omega),r,setRow_other _ _ k _ (by omega),d,zee hk];simp[hk]
 clear V l f a;have hGi:¬(G=i):=by omega
 have hGim:¬(G=i+m):=by omega
 have wL:¬(c=i):=by omega
 have hw1:IntKind.i64.wrap ((i:Int)+(m:Int))=(i:Int)+(m:Int):=by rw[IntKind.wrap_i64];omega
 have IN:(0:Int)<=(i:Int)+(m:Int):=by omega
 have Db:i<=n:=by omega
 have htn:((i:Int)+(m:Int)).toNat=i+m:=by omega
 have hb3:(i:Int)<=(n:Int):=by omega
 have XJ:=XH (w.alloc (.cells u 94)).drew (B7 _ rfl) (B _ rfl);have XK:=XI ((w.alloc (.cells u 94)).drew.setRow w.heap.size L.toArray).drew (C _ rfl) (V4 (w.alloc (.cells u 94)).drew rfl);have XL:=oo (w.alloc (.cells u 94)).drew ((w.alloc (.cells u 94)).drew.setRow w.heap.size L.toArray).drew rfl rfl rfl rfl rfl rfl rfl rfl;go_enter func145,ntmps145
 go_wp2_with (first
  | (at_builtin;refine Lib.wpList_append_run _ rfl _ _ _ _ rfl _ _ rfl rfl _ _ (o _) ?_)
  | (at_builtin;refine iH _ rfl _ _ 27 27 rfl _ _ rfl rfl (XJ _ _) ?_))
 go_region_law_o (refine kU rfl _ _ 27 27 rfl _ _ (by simp[Act.eval,Act.put]) (by simp[Act.eval,Act.put]) (XK _ _ _) ?_)
 go_wp2
 go_ret;exact⟨_,rfl,XL⟩
def I6 w{base m A u ys}(hu:w.ownsRow base 94 12 u m ys)(hm:0<m)(d:m<=1000000000)(k:base<=w.heap.size)(h1:∀y∈ys,y.oneCell'=true):
  Calls prog 145 #[.slice A 0 0,.int .i64 0,u] w λe w'=>∃v',e=.returned v'/\db base w (.slice none 0 0) m ys v' w':=by
 have t:=underlying3;have t22:=underlying27;have g:=run_underlying underlying3;have a:=run_underlying underlying27;have J:¬((m:Int)=0):=by omega
 obtain⟨i,hi,h,dE,B⟩:=pd;have hs:=World.ownsRow_nil w base 94 12;obtain⟨v',w',b,f,_,H⟩:=jA (P:=prog) (ty:=27) w underlying27 underlying27 (.inr ⟨_,rfl⟩) hi h dE (by rfl) hs (uj hu h1) (by simp only[maxLen];omega) (by rw[B];omega) k;rw[zbh,zcs]at f;have G:=((vL (ty:=27) underlying27 underlying27 (.inr ⟨_,rfl⟩) hi h dE (uj hu h1) (by omega) (by rw[B];omega) A).2 (by omega)).trans b;rcases hu.2 with⟨_,h0⟩|⟨vb,vc,D,rfl,_⟩
 .omega
 cases A with
 | none =>
  go_enter func145,ntmps145
  go_wp2_with (at_builtin;refine Lib.wpList_append_run _ rfl _ _ _ _ rfl _ _ rfl rfl _ _ G ?_)
  all_goals (go_ret;exact⟨_,rfl,f,H⟩)
 | some A =>
  obtain⟨j,ao,c⟩:=A;go_enter func145,ntmps145
  go_wp2_with (at_builtin;refine Lib.wpList_append_run _ rfl _ _ _ _ rfl _ _ rfl rfl _ _ G ?_)
  all_goals (go_ret;exact⟨_,rfl,f,H⟩)
def Fk w{base n m i:Nat}{v u xs ys}(hs:w.ownsRow base 94 12 v n xs)(hu:w.ownsRow base 94 12 u m ys)(d:∀b,v.ownBlock=some b->u.ownBlock≠some b)(hi:i<=n)(hm:0<m)(h:n+m<=1000000000)(k:base<=w.heap.size)
  (F:∀x∈xs,x.oneCell'=true) (h1:∀y∈ys,y.oneCell'=true) :
  Calls prog 145 #[v,.int .i64 i,u] w λe w'=>∃v',e=.returned v'/\db base w v (n+m) (xs.take (i*12)++ys++xs.drop (i*12)) v' w':=by
 by_cases D:i=n
 .subst D;have a:=hs.1;rw[zbj (by omega),zch (by omega),zbr];exact I2 w hs hu hm h k h1
 .obtain⟨b,c,rfl⟩:=(fY hs).2 (by omega);obtain⟨vb,vc,rfl⟩:=(fY hu).2 (by omega);by_cases H:n+m<=c
  .exact Fj w hs hu (λe=>d b rfl (by rw[e];rfl)) (by omega) hm h H F h1
  .exact G7 w hs hu (by omega) hm h (by omega) k F h1
def D4{l l' f n i r}(H:oB i l l'=some r):
  bg prog 145 [.vc 0 f,.d (cI i),.vc 1 n] ⟨[],[⟨94,12,f,some (l.map aa.row)⟩,⟨94,12,n,some (l'.map aa.row)⟩]⟩
   (QE (.vc 2 r.length) ⟨[],[⟨94,12,([]:LQ aa).length,none⟩,⟨94,12,n,some (l'.map aa.row)⟩,⟨94,12,r.length,some (r.map aa.row)⟩]⟩):=by
 obtain⟨hk,H⟩:=iS H;cases H;intro g w base vs a ha;obtain⟨x,y,z,rfl,v,B,C⟩:=Xe rfl ha;obtain⟨N,O,k2,k3⟩:=hk;have P:y=.int .i64 i:=B.aO;subst P;obtain⟨xs,s1,s2,s3⟩:=a.own 0 _ _ _ _ rfl;obtain⟨ys,u,Q,o⟩:=a.own 1 _ _ _ _ rfl;have S:f=l.length:=by have:=s3.len;simpa using this.symm
 have D:n=l'.length:=by have:=o.len;simpa using this.symm
 have E:z=g.tk 1:=by
  rcases qu a rfl C with h|⟨_,h,_⟩
  .exact h
  .have:l'=[]:=by simpa using h
   rw[this]at k2;simp at k2
 subst E;obtain⟨j,rfl⟩:∃j:Nat,i=(j:Int):=⟨i.toNat,by omega⟩;have q:=s3.repl s1.1 o u.1 (i:=j) (j:=j) (zag _) (by omega);have F:(l.map aa.row).take j++l'.map aa.row++(l.map aa.row).drop j=(l.take j++l'++l.drop j).map aa.row:=by simp[zfe,zfs]
 rw[F,show j+n+(f-j)=f+n from by omega]at q;have k:(l.take j++l'++l.drop j).length=f+n:=by simp;omega
 have G:=s3.one s1.1;have m:=o.one u.1;have fin:∀v0:uB,(v0.ownBlock=(g.tk 0).ownBlock∨v0.ownBlock=none/\0<f+n)->∀e w',(∃v',e=.returned v'/\db base w v0 (f+n) (xs.take (j*12)++ys++xs.drop (j*12)) v' w') ->
   mh ⟨g,w,⟨[],[⟨94,12,f,some (l.map aa.row)⟩,⟨94,12,n,some (l'.map aa.row)⟩]⟩,base⟩ (QE (.vc 2 (l.take (j:Int).toNat++l'++l.drop (j:Int).toNat).length) ⟨[],[⟨94,12,([]:LQ aa).length,none⟩,⟨94,12,n,some (l'.map aa.row)⟩,⟨94,12,(l.take (j:Int).toNat++l'++l.drop (j:Int).toNat).length,some ((l.take (j:Int).toNat++l'++l.drop (j:Int).toNat).map aa.row)⟩]⟩) e w':=by
  rintro v0 R e w' ⟨v',rfl,s,p⟩;rw[zcl,k];refine v7 a (tk:=0) rfl rfl s ?_ q;rcases p with⟨c1,c2,t⟩|p
  .rcases R with R|⟨R,T⟩
   .rw[R]at c1 t;exact .inl ⟨c1,c2,t⟩
   .rw[R]at c1;obtain⟨b,c,M⟩:=(fY s).2 (by omega);rw[M]at c1;cases c1
  .exact .inr p
 rcases qu a rfl v with hx|⟨h0,I,A,hx⟩
 .subst hx;refine(Fk w s1 u (λb h1 h2=>a.mo 0 1 _ _ b (by decide) rfl rfl h1 h2) (i:=j) (by omega) (by omega) (by omega) a.base G m).mono ?_;exact fin _ (.inl rfl)
 .subst hx;have J:j=0:=by omega
  subst J;have K:xs=[]:=zax (by rw[s1.1,h0,Nat.zero_mul]);subst K;refine(I6 w (A:=A) u (by omega) (by omega) a.base m).mono λe w' L=>fin (.slice none 0 0) (.inr ⟨rfl,by omega⟩) e w' ?_
  rw[h0,zbh];simpa using L
def I7 w{base b n c i m u A xs ys}(hs:w.ownsRow base 94 12 (.slice (some ⟨b,0,none⟩) n c) n xs)(hu:Go.Abs.Src prog w 12 (.slice A m u) m ys)(hi:i<n)(hm:m<=n-i)(hb:n<=1000000000):
  Calls prog 272 #[.slice (some ⟨b,0,none⟩) n c,.int .i64 i,.int .i64 n,.slice A m u] w λe w'=>∃v',e=.returned v'/\db base w (.slice (some ⟨b,0,none⟩) n c) (i+m) (xs.take (i*12)++ys) v' w':=by
 have t3:=underlying3;have t22:=underlying27;have u3:=run_underlying underlying3;have N:=run_underlying underlying27;obtain⟨F,Dj,O,cur,x,Q,R⟩:=ic hs;obtain⟨inf,y,z,dE,Bh⟩:=pd;simp only[maxLen]at O;generalize H:(Value.agg _)=zv at z;have B:zv.cells.size=12:=by rw[←H];rfl
 have S:∀v∈(Builtin.zeroCells zv.cells (n-(i+m))).toList,v.oneCell'=true:=tY (by rw[B,←H];decide);have T:¬((i:Int)=(n:Int)):=by omega
 have uP:=hs.1;have g:=hu.size;have j:cur.toList.length=c*12:=by simpa using Q
 have l:i*12+ys.length<=cur.toList.length:=by rw[g,j];omega
 have p:∀ty,(Builtin.append_ #[27,27] ty #[.slice (some ⟨b,0,none⟩) i c,.slice A m u]).run prog w=.ok (.slice (some ⟨b,0,none⟩) (i+m) c) (w.setRow b (laid cur.toList (i*12) ys).toArray):=λty =>
  ES w underlying27 y dE x (by omega) (hu.cells w rfl) hu.one (by rw[←zbx];exact l)
 generalize C:laid cur.toList (i*12) ys=L at p;have E:L.length=cur.toList.length:=by rw[←C];exact gI l
 have q:(w.setRow b L.toArray).heap[b]?=some (.cells L.toArray 94 (0,0)):=setRow_heap w b cur _ 94 (0,0) x;have a:L.take ((i+m)*12)=xs.take (i*12)++ys:=by
  have U:(cur.toList.take ((i+m)*12)).drop (i*12+ys.length)=[]:=zch (by rw[zaw,g];omega);rw[←C,ib l (by rw[g];omega),U,zbr,←R,zey,show min (i*12) (n*12)=i*12 from by omega]
 have h:(xs.take (i*12)++ys).length=(i+m)*12:=by simp only[zar,zaw];omega
 have Db:i<=n:=by omega
 have V:(0:Int)<=(i:Int):=by omega
 have wL:¬(c=i):=by omega
 by_cases X:i+m=n
 .have W:¬((i:Int)+(m:Int)<(n:Int)):=by omega
  have d:¬(i+m<n):=by omega
  have D:¬(((i+m:Nat):Int)<(n:Int)):=by omega
  have f:db base w (.slice (some ⟨b,0,none⟩) n c) (i+m) (xs.take (i*12)++ys) (.slice (some ⟨b,0,none⟩) (i+m) c) (w.setRow b L.toArray) :=
   ⟨⟨h,.inr ⟨b,c,_,rfl,F,q,by omega,by simp only[maxLen];omega,by rw[zbp,E,j],by rw[zdd,a]⟩⟩,.inl ⟨rfl,by simp,⟨rfl,rfl,rfl,by simp,λk hk I=>setRow_other _ b k _ (λe=>I (by rw[e];rfl))⟩⟩⟩
  rw[X]at f;go_enter func272,ntmps272
  go_wp2_with (at_builtin;refine Lib.wpList_append_run _ rfl _ _ _ _ rfl _ _ rfl rfl _ _ (p _) ?_)
  all_goals (go_ret;exact⟨_,rfl,f⟩)
 .have W:(i:Int)+(m:Int)<(n:Int):=by omega
  have d:i+m<n:=by omega
  have G:(i+m)*12+(Builtin.zeroCells zv.cells (n-(i+m))).toList.length<=L.length:=by rw[zbx,size_zeroCells,B,E,j];omega
  have J:∀ty r,(Builtin.clear_ #[27] ty #[.slice (some ⟨b,(i+m)*12,none⟩) (n-(i+m)) r]).run prog (w.setRow b L.toArray)=.ok (.tuple #[]) ((w.setRow b L.toArray).setRow b (laid L ((i+m)*12) (Builtin.zeroCells zv.cells (n-(i+m))).toList).toArray):=λty r=>by
   have:=Aw (P:=prog) (ty:=ty) (c:=r) (w.setRow b L.toArray) (o:=(i+m)*12) (n:=n-(i+m)) underlying27 y z B q (by omega) (by rw[zbp,E,j];omega) S;exact this
  generalize K:laid L ((i+m)*12) (Builtin.zeroCells zv.cells (n-(i+m))).toList=s at J;have Y:s.length=L.length:=by rw[←K];exact gI G
  have t:s.take ((i+m)*12)=xs.take (i*12)++ys:=by rw[←K,Ax G (zag _),a]
  have M:¬(c=i+m):=by omega
  have Z:i+m<=n:=by omega
  have f:db base w (.slice (some ⟨b,0,none⟩) n c) (i+m) (xs.take (i*12)++ys) (.slice (some ⟨b,0,none⟩) (i+m) c) ((w.setRow b L.toArray).setRow b s.toArray) :=
   ⟨⟨h,.inr ⟨b,c,_,rfl,F,setRow_heap _ b _ _ 94 (0,0) q,by omega,by simp only[maxLen];omega,by rw[zbp,Y,E,j],by rw[zdd,t]⟩⟩,
    .inl ⟨rfl,by simp,⟨rfl,rfl,rfl,by simp,λk hk I=>by rw[setRow_other _ b k _ (λe=>I (by rw[e];rfl)),setRow_other _ b k _ (λe=>I (by rw[e];rfl))]⟩⟩⟩
  go_enter func272,ntmps272
  go_wp2_with (first
   | (at_builtin;refine Lib.wpList_append_run _ rfl _ _ _ _ rfl _ _ rfl rfl _ _ (p _) ?_)
   | (at_builtin;refine je _ rfl _ 27 rfl _ rfl (J _ _) ?_))
  all_goals (go_ret;exact⟨_,rfl,f⟩)
def I8 w{base b n c i j m D A xs ys}(hs:w.ownsRow base 94 12 (.slice (some ⟨b,0,none⟩) n c) n xs)(hu:Go.Abs.Src prog w 12 (.slice A m D) m ys)(hi:i<j)(hj:j<n)(hm:m<=j-i)(hb:n<=1000000000)(Ff:∀x∈xs,x.oneCell'=true):
  Calls prog 272 #[.slice (some ⟨b,0,none⟩) n c,.int .i64 i,.int .i64 j,.slice A m D] w λe w'=>∃v',e=.returned v'/\db base w (.slice (some ⟨b,0,none⟩) n c) (i+m+(n-j)) (xs.take (i*12)++ys++xs.drop (j*12)) v' w':=by
 have t3:=underlying3;have t22:=underlying27;have u3:=run_underlying underlying3;have u22:=run_underlying underlying27;obtain⟨Y,Dj,An,cur,Z,sZ,EG⟩:=ic hs;obtain⟨inf,G,hz,dE,Bh⟩:=pd;simp only[maxLen]at An;have mixed:=s7;generalize p:(Value.agg _)=zv at hz;have J:zv.cells.size=12:=by rw[←p];rfl
 have uP:=hs.1;have u:=hu.size;have g:cur.toList.length=c*12:=by simpa using sZ
 obtain⟨T,hT⟩:∃T,i+m+(n-j)=T:=⟨_,rfl⟩;have hTi:(i:Int)+(m:Int)+((n-j:Nat):Int)=(T:Int):=by omega
 have hTn:T<=n:=by omega
 have JK:∀v∈(Builtin.zeroCells zv.cells (n-T)).toList,v.oneCell'=true:=tY (by rw[J,←p];decide);have hne1:¬((i:Int)=(j:Int)):=by omega
 have hne2:¬((j:Int)=(n:Int)):=by omega
 have hw1:IntKind.i64.wrap ((i:Int)+(m:Int))=(i:Int)+(m:Int):=by rw[IntKind.wrap_i64];omega
 have hw2:IntKind.i64.wrap ((i:Int)+(m:Int)+((n-j:Nat):Int))=(T:Int):=by rw[IntKind.wrap_i64];omega
 have htc:¬((c:Int)<(T:Int)):=by omega
 have IN:(0:Int)<=(i:Int)+(m:Int):=by omega
 have htn:((i:Int)+(m:Int)).toNat=i+m:=by omega
 have hle1:(i:Int)+(m:Int)<=(j:Int):=by omega
 have hle2:(i:Int)+(m:Int)<=(T:Int):=by omega
 have q:T<=c:=by omega
 have Db:i<=n:=by omega
 have hin2:i<=c:=by omega
 have hiT:i<=T:=by omega
 have hjn:j<=n:=by omega
 have RX:i<=j:=by omega
 have wL:¬(c=i):=by omega
 have hcj:¬(c=j):=by omega
 have hcim:¬(c=i+m):=by omega
 -- the first copy
 have y:i*12+ys.length<=cur.toList.length:=by rw[u,g];omega
 have z:∀ty d,(Builtin.copy_ #[27,27] ty #[.slice (some ⟨b,i*12,none⟩) (T-i) d,.slice A m D]).run prog w.drew=.ok (goInt m) (w.drew.setRow b (laid cur.toList (i*12) ys).toArray):=λty d =>
  UL w.drew underlying27 G dE Z (by omega) (hu.cells _ rfl) hu.one (by rw[←zbx];exact y)
 generalize K:laid cur.toList (i*12) ys=L at z;have E:L.length=cur.toList.length:=by rw[←K];exact gI y
 have M:(w.drew.setRow b L.toArray).heap[b]?=some (.cells L.toArray 94 (0,0)):=setRow_heap w.drew b cur _ 94 (0,0) Z
 -- the second one
 have B:(xs.drop (j*12)).length=(n-j)*12:=by rw[zbc,uP];omega
 have cP:∀k v,(xs.drop (j*12))[k]?=some v->(w.drew.setRow b L.toArray).drew.cell? (Addr.add ⟨b,j*12,none⟩ k)=some v:=λk v hk=>by
  have hkl:=(zad.1 hk).1;rw[zbd]at hk;rw[Addr.add_lit];have:(w.drew.setRow b L.toArray).drew.cell? ⟨b,j*12+k,none⟩=L[j*12+k]?:=by
   have:=cell_of_row (w.drew.setRow b L.toArray) b (j*12+k) L.toArray 94 (0,0) M;simpa using this
  rw[this,←K,xE y,zaa (by rw[u];omega),←hk,←EG,zah,zab (by omega)]
 have r:Nat.min (n-j) (T-(i+m))=n-j:=pX (by omega);have O:(i+m)*12+(xs.drop (j*12)).length<=L.length:=by rw[B,E,g];omega
 have N:∀ty d sc,(Builtin.copy_ #[27,27] ty #[.slice (some ⟨b,(i+m)*12,none⟩) (T-(i+m)) d,.slice (some ⟨b,j*12,none⟩) (n-j) sc]).run prog (w.drew.setRow b L.toArray).drew=.ok (goInt (Nat.min (n-j) (T-(i+m)))) ((w.drew.setRow b L.toArray).drew.setRow b (laid L ((i+m)*12) (xs.drop (j*12))).toArray):=λty d sc =>
  lQ (w.drew.setRow b L.toArray).drew underlying27 G dE M (by rw[B,r]) cP (λv hv=>Ff v (zca hv)) (by rw[←zbx];exact O)
 generalize xx:laid L ((i+m)*12) (xs.drop (j*12))=h at N;have C:h.length=L.length:=by rw[←xx];exact gI O
 have a:((w.drew.setRow b L.toArray).drew.setRow b h.toArray).heap[b]?=some (.cells h.toArray 94 (0,0)):=setRow_heap (w.drew.setRow b L.toArray).drew b _ _ 94 (0,0) M;have Q:L.take ((i+m)*12)=xs.take (i*12)++ys:=by
  have R:(cur.toList.take ((i+m)*12)).drop (i*12+ys.length)=[]:=zch (by rw[zaw,u];omega);rw[←K,ib y (by rw[u];omega),R,zbr,←EG,zey,show min (i*12) (n*12)=i*12 from by omega]
 have s:h.take (T*12)=xs.take (i*12)++ys++xs.drop (j*12):=by
  have R:(L.take (T*12)).drop ((i+m)*12+(xs.drop (j*12)).length)=[]:=zch (by rw[zaw,B];omega);rw[←xx,ib O (by rw[B];omega),R,zbr,Q]
 have H:(xs.take (i*12)++ys++xs.drop (j*12)).length=T*12:=by simp only[zar,zaw,zbc];omega
 rw[hT];have Jt:∀k,k<w.heap.size->some k≠Value.ownBlock (.slice (some ⟨b,0,none⟩) n c)->((w.drew.setRow b L.toArray).drew.setRow b h.toArray).heap[k]?=w.heap[k]?:=λk hk I=>by
  rw[setRow_other _ b k _ (λe=>I (by rw[e];rfl))];show(w.drew.setRow b L.toArray).heap[k]?=_;rw[setRow_other _ b k _ (λe=>I (by rw[e];rfl))];rfl
 by_cases S:T=n
 .have l:db base w (.slice (some ⟨b,0,none⟩) n c) T (xs.take (i*12)++ys++xs.drop (j*12)) (.slice (some ⟨b,0,none⟩) T c) ((w.drew.setRow b L.toArray).drew.setRow b h.toArray) :=
   ⟨⟨H,.inr ⟨b,c,_,rfl,Y,a,q,by simp only[maxLen];omega,by rw[zbp,C,E,g],by rw[zdd,s]⟩⟩,.inl ⟨rfl,by simp,⟨rfl,rfl,rfl,by simp,Jt⟩⟩⟩
  have F:∀(W:uC) (A:LX Addr) ty d,(Builtin.clear_ #[27] ty #[.slice A 0 d]).run prog W=.ok (.tuple #[]) W:=λW A ty d=>GK W underlying27
  have hz0:n-T=0:=by omega
  clear S;rw[zas]at l ⊢;rcases Decidable.em (c=T)with f|f
  .subst f;go_enter func272,ntmps272
   go_wp2
   go_region
   go_wp2_with (at_builtin;refine iH _ rfl _ _ 27 27 rfl _ _ rfl rfl (z _ _) ?_)
   go_region_law_o (refine kU rfl _ _ 27 27 rfl _ _ (by simp[Act.eval,Act.put]) (by simp[Act.eval,Act.put]) (N _ _ _) ?_)
   go_wp2_with (at_builtin;refine je _ rfl _ 27 rfl _ rfl (F _ _ _ _) ?_)
   all_goals (go_ret;exact⟨_,rfl,l⟩)
  .go_enter func272,ntmps272
   go_wp2
   go_region
   go_wp2_with (at_builtin;refine iH _ rfl _ _ 27 27 rfl _ _ rfl rfl (z _ _) ?_)
   go_region_law_o (refine kU rfl _ _ 27 27 rfl _ _ (by simp[Act.eval,Act.put]) (by simp[Act.eval,Act.put]) (N _ _ _) ?_)
   go_wp2_with (at_builtin;refine je _ rfl _ 27 rfl _ rfl (F _ _ _ _) ?_)
   all_goals (go_ret;exact⟨_,rfl,l⟩)
 .have EX:T*12+(Builtin.zeroCells zv.cells (n-T)).toList.length<=h.length:=by rw[zbx,size_zeroCells,J,C,E,g];omega
  have F:∀ty d,(Builtin.clear_ #[27] ty #[.slice (some ⟨b,T*12,none⟩) (n-T) d]).run prog ((w.drew.setRow b L.toArray).drew.setRow b h.toArray)=.ok (.tuple #[]) (((w.drew.setRow b L.toArray).drew.setRow b h.toArray).setRow b (laid h (T*12) (Builtin.zeroCells zv.cells (n-T)).toList).toArray):=λty d=>by
   have:=Aw (P:=prog) (ty:=ty) (c:=d) ((w.drew.setRow b L.toArray).drew.setRow b h.toArray) (o:=T*12) (n:=n-T) underlying27 G hz J a (by omega) (by rw[zbp,C,E,g];omega) JK;exact this
  generalize t:laid h (T*12) (Builtin.zeroCells zv.cells (n-T)).toList=U at F;have V:U.length=h.length:=by rw[←t];exact gI EX
  have X:U.take (T*12)=xs.take (i*12)++ys++xs.drop (j*12):=by rw[←t,Ax EX (zag _),s]
  have f:¬(c=T):=by omega
  have l:db base w (.slice (some ⟨b,0,none⟩) n c) T (xs.take (i*12)++ys++xs.drop (j*12)) (.slice (some ⟨b,0,none⟩) T c) (((w.drew.setRow b L.toArray).drew.setRow b h.toArray).setRow b U.toArray) :=
   ⟨⟨H,.inr ⟨b,c,_,rfl,Y,setRow_heap _ b _ _ 94 (0,0) a,q,by simp only[maxLen];omega,by rw[zbp,V,C,E,g],by rw[zdd,X]⟩⟩,.inl ⟨rfl,by simp,⟨rfl,rfl,rfl,by simp,λk hk I=>by rw[setRow_other _ b k _ (λe=>I (by rw[e];rfl))];exact Jt k hk I⟩⟩⟩
  rw[zas]at l ⊢;go_enter func272,ntmps272
  go_wp2
  go_region
  go_wp2_with (at_builtin;refine iH _ rfl _ _ 27 27 rfl _ _ rfl rfl (z _ _) ?_)
  go_region_law_o (refine kU rfl _ _ 27 27 rfl _ _ (by simp[Act.eval,Act.put]) (by simp[Act.eval,Act.put]) (N _ _ _) ?_)
  go_wp2_with (at_builtin;refine je _ rfl _ 27 rfl _ rfl (F _ _) ?_)
  all_goals (go_ret;exact⟨_,rfl,l⟩)
def B8{l l' n i j r}(H:qJ i j l' l=some r):
  bg prog 272 [.vc 0 n,.d (cI i),.d (cI j),.d (au 12 aa.row l')] ⟨[],[⟨94,12,n,some (l.map aa.row)⟩]⟩
   (QE (.vc 1 r.length) ⟨[],[⟨94,12,([]:LQ aa).length,none⟩,⟨94,12,r.length,some (r.map aa.row)⟩]⟩):=by
 obtain⟨hk,H⟩:=iS H;cases H;intro g w base vs a ha;obtain⟨x,y,z,u,rfl,F,I,J,K⟩:=args4 rfl ha;obtain⟨Q,R,k2,k3,k4⟩:=hk;have L:y=.int .i64 i:=I.aO;have p:z=.int .i64 j:=J.aO;subst L;subst p;obtain⟨xs,s1,s2,s3⟩:=a.own 0 _ _ _ _ rfl;have S:n=l.length:=by have:=s3.len;simpa using this.symm
 have m:cq g.lim w (.sl 12 (l'.map aa.row)) u:=by cases K with|d _ _ h=>exact h
 obtain⟨ys,t⟩:=rP (P:=prog) m;obtain⟨A,T,hu⟩:=yF m;have G:=t.src;rw[zcb]at hu G;subst hu;have hx:x=g.tk 0:=by
  rcases qu a rfl F with h|⟨_,h,_⟩
  .exact h
  .have:l=[]:=by simpa using h
   rw[this]at k2;simp at k2;omega
 subst hx;obtain⟨f,rfl⟩:∃q:Nat,i=(q:Int):=⟨i.toNat,by omega⟩;obtain⟨k,rfl⟩:∃q:Nat,j=(q:Int):=⟨j.toNat,by omega⟩;have B:bY g.lim w 12 l'.length (l'.map aa.row) ys:=⟨by simp,t.rows,λq c v C hv=>t.rep q v c hv C⟩;have E:=s3.repl s1.1 B G.size (i:=f) (j:=k) (by omega) (by omega);have M:(l.map aa.row).take f++l'.map aa.row++(l.map aa.row).drop k=(l.take f++l'++l.drop k).map aa.row:=by simp[zfe,zfs]
 rw[M]at E;have o:(l.take f++l'++l.drop k).length=f+l'.length+(n-k):=by simp;omega
 obtain⟨b,c,hv⟩:=(fY s1).2 (by omega);have N:=s3.one s1.1;have fin:∀e w',(∃v',e=.returned v'/\db base w (g.tk 0) (f+l'.length+(n-k)) (xs.take (f*12)++ys++xs.drop (k*12)) v' w') ->
   mh ⟨g,w,⟨[],[⟨94,12,n,some (l.map aa.row)⟩]⟩,base⟩ (QE (.vc 1 (l.take (f:Int).toNat++l'++l.drop (k:Int).toNat).length) ⟨[],[⟨94,12,([]:LQ aa).length,none⟩,⟨94,12,(l.take (f:Int).toNat++l'++l.drop (k:Int).toNat).length,some ((l.take (f:Int).toNat++l'++l.drop (k:Int).toNat).map aa.row)⟩]⟩) e w':=by
  rintro e w' ⟨v',rfl,O,C⟩;rw[zcl,zcl,o];exact v7 a (tk:=0) rfl rfl O C E
 refine Calls.mono ?_ fin;have s:=s1;rw[hv]at s ⊢;by_cases D:k=n
 .subst D;have:=I7 w s G (i:=f) (by omega) (by omega) (by omega);rw[Nat.sub_self,zct,zch (by rw[s1.1];exact zag _),zbr];exact this
 .exact I8 w s G (by omega) (by omega) (by omega) (by omega) N
def pL{l r}(H:eH l=some r):bg prog 25 [.d (au 12 aa.row l)] ⟨[],[]⟩ (QE (.vc 0 r.length) ⟨[],[⟨94,12,r.length,some (r.map aa.row)⟩]⟩):=by
 obtain⟨hk,H⟩:=iS H;cases H;obtain⟨i32,h,L,C,c⟩:=pd;refine bg.Dw ?_;refine bg.enter func25 rfl ntmps25 rfl λS g=>?_
 refine wh trivial (.B 8 [] rfl λ_=>?_);refine .Nz underlying27 rfl rfl λb f=>?_
 refine wh trivial (.A 1 [] rfl λ_=>?_);refine .cond rfl (λa=>?_) (λa=>?_)
 .have hl:l=[]:=by simpa using f a
  subst hl;refine wh trivial (.A 4 [] rfl λ_=>?_);refine .Uz (i:=2) (e:=94) (sz:=12) rfl ?_;refine .rc cE func25 results25 rfl ?_;exact⟨[],[0],rfl,rfl,rfl,rfl,rfl,rfl,rfl,rfl,.aW _⟩
 .refine wh trivial (.B 3 [] rfl λ_=>?_);refine .v (x:=.vc 0 ([]:LQ aa).length) (uT aa.row underlying27 h C) rfl ?_;refine .tX (st':=⟨[],[⟨94,12,([]:LQ aa).length,some (([]:LQ aa).map aa.row)⟩]⟩) rfl ?_;refine wh trivial (.B 1 [] rfl λ_=>?_);refine .v (x:=.vc 0 (([]:LQ aa)++l).length) (oa (l:=[]) (l':=l) (row:=aa.row) underlying27 h L C rfl (by rw[c];decide) rfl rfl rfl rfl (by simpa using hk)) rfl ?_;refine .tX (st':=⟨[],[⟨94,12,(([]:LQ aa)++l).length,some ((([]:LQ aa)++l).map aa.row)⟩]⟩) rfl ?_;refine wh trivial (.A 2 [] rfl λ_=>?_);refine .rc cE func25 results25 rfl ?_;exact⟨[],[0],rfl,rfl,rfl,rfl,rfl,rfl,rfl,rfl,.aW _⟩
def wV{l r}(H:eH l=some r):aR prog 25 [au 12 aa.row l] (·=au 12 aa.row r):=.of (pL H).Xf
def gz(base:Nat)(w:uC)(v:uB)(n:Nat)(xs:LQ uB)(v':uB)(w':uC):=
 w'.ownsRow base 203 3 v' n xs/\(v'.ownBlock=v.ownBlock/\w'.heap.size=w.heap.size/\w.grownBy w' v.ownBlock∨v'.ownBlock=some w.heap.size/\Below w.heap.size w w')
def wx{base m w u ys}(hu:w.ownsRow base 203 3 u m ys)(h1:∀y∈ys,y.oneCell'=true):Go.Abs.Src prog w 3 u m ys:=by
 rcases hu.2 with⟨rfl,rfl⟩|⟨b,cap,c,rfl,a,d,D,A,s,E⟩
 .have:ys=[]:=zax (by simpa using hu.1);subst this;exact⟨rfl,λw' _=>run_firstCells_none w' _ 0 0 _,by simp,by simp⟩
 .refine⟨rfl,λw' h=>run_firstCells_some w' _ m _ m cap ys hu.1 λj y H=>?_,hu.1,h1⟩;rw[World.cell?_of_block (w:=w) (by rw[h])];exact hu.cells (g:=b) rfl j y H
def Lu w{base n m:Nat}{v u xs ys}(hs:w.ownsRow base 203 3 v n xs)(hu:w.ownsRow base 203 3 u m ys)(hm:0<m)(j:n+m<=1000000000)(k:base<=w.heap.size)(h1:∀y∈ys,y.oneCell'=true):
  Calls prog 253 #[v,.int .i64 n,u] w λe w'=>∃v',e=.returned v'/\gz base w v (n+m) (xs++ys) v' w':=by
 have t:=underlying3;have t22:=underlying26;have l:=run_underlying underlying3;have a:=run_underlying underlying26;have J:¬((m:Int)=0):=by omega
 obtain⟨i,hi,d,dE,B⟩:=pC;obtain⟨v',w',h,f,_,H⟩:=jA (P:=prog) (ty:=26) w underlying26 underlying26 (.inr ⟨_,rfl⟩) hi d dE (by rfl) hs (wx hu h1) (by simp only[maxLen];omega) (by rw[B];omega) k;rcases hu.2 with⟨_,h0⟩|⟨vb,vc,D,rfl,_⟩
 .omega
 rcases hs.2 with⟨rfl,rfl⟩|⟨b,c,g,rfl,F,o,p,A,s,E⟩
 .go_enter func253,ntmps253
  go_wp2_with (at_builtin;refine Lib.wpList_append_run _ rfl _ _ _ _ rfl _ _ rfl rfl _ _ h ?_)
  go_ret;exact⟨_,rfl,f,H⟩
 .go_enter func253,ntmps253
  go_wp2_with (at_builtin;refine Lib.wpList_append_run _ rfl _ _ _ _ rfl _ _ rfl rfl _ _ h ?_)
  all_goals (go_ret;exact⟨_,rfl,f,H⟩)
def lC{w:uC}{base b n c xs}(hs:w.ownsRow base 203 3 (.slice (some ⟨b,0,none⟩) n c) n xs):base<=b/\n<=c/\c<=maxLen/\∃H:uD uB,w.heap[b]?=some (.cells H 203 (0,0))/\H.size=c*3/\H.toList.take (n*3)=xs:=by
 rcases hs.2 with⟨h,_⟩|⟨b',d,H,h,F,a,D,A,s,E⟩
 .cases h
 .cases h;exact⟨F,D,A,H,a,s,E⟩
def Lv w{b vb m vc o l cb cs:Nat}{cur D}(d:vb≠b)(h:w.heap[b]?=some (.cells cur 203 (0,0)))(U:w.heap[vb]?=some (.cells D 203 (0,0)))(hk:cur.size≠0):
  (callFunc 392 #[.slice (some ⟨vb,0,none⟩) m vc,.slice (some ⟨b,o,none⟩) l cb]).run prog w=.ok (.value (.bool false)) w:=by
 obtain⟨i,hi,H,dE,B⟩:=pC;rw[run_callFunc_extern func392 (by kernel_rfl) (by kernel_rfl) (by kernel_rfl) (e:=Extern.SlicesOverlaps.overlaps #[26,26] #[4]) (by kernel_rfl),
  Lib.run_overlaps_apart w 26 4 203 underlying26 3 (λw'=>by simp[sizeOf,typeInfo,hi,dE]) ⟨vb,0,none⟩ ⟨b,o,none⟩ m vc l cb d 203 203 D.size cur.size (by simp[World.shape?,U]) (by simp[World.shape?,h]) hk (by simp[World.frozen?,U]) (by simp[World.frozen?,U])]
 rfl
def G9 w{base b n c i vb m vc xs ys}(hs:w.ownsRow base 203 3 (.slice (some ⟨b,0,none⟩) n c) n xs)(hu:w.ownsRow base 203 3 (.slice (some ⟨vb,0,none⟩) m vc) m ys)(C:vb≠b)(hi:i<n)(hm:0<m)(hb:n+m<=1000000000)(R:n+m<=c)
  (S:∀x∈xs,x.oneCell'=true) (h1:∀y∈ys,y.oneCell'=true) :
  Calls prog 253 #[.slice (some ⟨b,0,none⟩) n c,.int .i64 i,.slice (some ⟨vb,0,none⟩) m vc] w λe w'=>∃v',e=.returned v'/\gz base w (.slice (some ⟨b,0,none⟩) n c) (n+m) (xs.take (i*3)++ys++xs.drop (i*3)) v' w':=by
 have t3:=underlying3;have t22:=underlying26;have u3:=run_underlying underlying3;have T:=run_underlying underlying26;obtain⟨U,Dj,V,cur,p,s,Y⟩:=lC hs;obtain⟨_,Z,_,D3,UR,D,E⟩:=lC hu;obtain⟨inf,q,hz,dE,Bh⟩:=pC;simp only[maxLen]at V;have z32:∀w,(Go.sizeOf 203).run prog w=.ok 3 w:=λw'=>by simp[sizeOf,typeInfo,q,dE]
 have JK:¬((m:Int)=0):=by omega
 have hz2:¬((i:Int)=(n:Int)):=by omega
 have r:=s7;have hw1:IntKind.i64.wrap ((i:Int)+(m:Int))=(i:Int)+(m:Int):=by rw[IntKind.wrap_i64];omega
 have IN:(0:Int)<=(i:Int)+(m:Int):=by omega
 have Db:i<=n:=by omega
 have htn:((i:Int)+(m:Int)).toNat=i+m:=by omega
 have E7:¬(c=i+m):=by omega
 have hb3:(i:Int)<=(n:Int)+(m:Int):=by omega
 have hb4:¬(c=i):=by omega
 have t:cur.size≠0:=by rw[s];omega
 have u:=hs.1;have l:=hu.1;have z:∀o F cb,(callFunc 392 #[.slice (some ⟨vb,0,none⟩) m vc,.slice (some ⟨b,o,none⟩) F cb]).run prog w=.ok (.value (.bool false)) w:=λo F cb=>Lv (cs:=0) w C p UR t
 -- the first copy
 have B5:∀j x,xs[j]?=some x->w.cell? ⟨b,j,none⟩=some x:=λj x H=>by have:=hs.cells (g:=b) rfl j x H;rwa [Addr.add_lit,zbh]at this
 have QB:∀j v,(xs.drop (i*3))[j]?=some v->w.cell? (Addr.add ⟨b,i*3,none⟩ j)=some v:=λj v H=>by
  rw[zbd]at H;rw[Addr.add_lit];exact B5 _ _ H
 have X:Nat.min (n+m-i) (n+m-(i+m))=n-i:=pX (by omega);have a:Nat.min m (n+m-i)=m:=pX (by omega);have G:(xs.drop (i*3)).length=Nat.min (n+m-i) (n+m-(i+m))*3:=by rw[zbc,u,X];omega
 have I:∀(W:uC),W.heap=w.heap->∀ty d J,(Builtin.copy_ #[26,26] ty #[.slice (some ⟨b,(i+m)*3,none⟩) (n+m-(i+m)) d,.slice (some ⟨b,i*3,none⟩) (n+m-i) J]).run prog W=.ok (goInt (Nat.min (n+m-i) (n+m-(i+m)))) (W.setRow b (laid cur.toList ((i+m)*3) (xs.drop (i*3))).toArray):=λW K ty d J =>
  lQ W underlying26 q dE (by rw[K];exact p) G (λj v H=>by rw[World.cell?_of_block (w:=w) (by rw[K])];exact QB j v H) (λv hv=>S v (zca hv)) (by rw[G,s,X];omega)
 generalize M:laid cur.toList ((i+m)*3) (xs.drop (i*3))=L at I;have f:cur.toList.length=c*3:=by simpa using s
 have A:(i+m)*3+(xs.drop (i*3)).length<=cur.toList.length:=by rw[zbc,u,f];omega
 have N:L.length=cur.toList.length:=by rw[←M];exact gI A
 have Di:∀j v,ys[j]?=some v->w.cell? (Addr.add ⟨vb,0,none⟩ j)=some v:=λj v H=>hu.cells (g:=vb) rfl j v H
 have NM:∀(W:uC),W.heap[b]?=some (.cells L.toArray 203 (0,0))->(∀x:Addr,x.block≠b->W.cell? x=w.cell? x)->∀ty d,(Builtin.copy_ #[26,26] ty #[.slice (some ⟨b,i*3,none⟩) (n+m-i) d,.slice (some ⟨vb,0,none⟩) m vc]).run prog W=.ok (goInt (Nat.min m (n+m-i))) (W.setRow b (laid L (i*3) ys).toArray):=λW XC XD ty d =>
  lQ W underlying26 q dE XC (by rw[l,a]) (λj v H=>by rw[XD _ (by rw[Addr.add_lit];exact C)];exact Di j v H) h1 (by simp only[zbp];omega)
 have P:((w.drew).setRow b L.toArray).heap[b]?=some (.cells L.toArray 203 (0,0)):=setRow_heap w.drew b cur _ 203 (0,0) p;have vK:∀x:Addr,x.block≠b->((w.drew).setRow b L.toArray).cell? x=w.cell? x:=λx hx=>World.cell?_of_block (w:=w) (setRow_other w.drew b x.block _ hx)
 have oo:gz base w (.slice (some ⟨b,0,none⟩) n c) (n+m) (xs.take (i*3)++ys++xs.drop (i*3)) (.slice (some ⟨b,0,none⟩) (n+m) c) (((w.drew).setRow b L.toArray).setRow b (laid L (i*3) ys).toArray):=by
  have O:i*3+ys.length<=L.length:=by rw[l,N,f];omega
  refine⟨⟨by simp only[zar,zaw,zbc];omega,.inr ⟨b,c,_,rfl,U,setRow_heap _ b _ _ 203 (0,0) P,R,by simp only[maxLen];omega,by rw[zbp,gI O,N,f],?_⟩⟩,
   .inl ⟨rfl,by simp,⟨rfl,rfl,rfl,by simp,λk hk Q=>?_⟩⟩⟩
  .rw[zdd,ib O (by rw[l];omega),←M];have e1:(laid cur.toList ((i+m)*3) (xs.drop (i*3))).take (i*3)=xs.take (i*3):=by
    apply zbv;intro j;rw[zah,zah,xE A];by_cases h:j<i*3
    .rw[zab h,zab h,zaa (by omega),←Y,zah,zab (by omega)]
    .rw[zaa h,zaa h]
   rw[e1];congr 1;rw[ib A (by rw[zbc,u];omega),l];apply zbv;intro j;rw[zbd];have B:(List.take ((i+m)*3) cur.toList).length=(i+m)*3:=by rw[zaw,f];omega
   by_cases h:j<(n-i)*3
   .rw[zaj (by rw[zar,B,zbc,u];omega),zan (by rw[B];omega),B];congr 1;omega
   .rw[zbu (by simp only[zar,zbc,zaw,f,u];omega),zbu (by rw[zbc,u];omega)]
  .rw[setRow_other _ b k _ (λe=>Q (by rw[e];rfl)),setRow_other _ b k _ (λe=>Q (by rw[e];rfl))];rfl
 have XE:=I w.drew rfl;have XF:=NM _ P vK;go_enter func253,ntmps253
 go_wp2_with (simp only[z])
 go_region_law_o (refine kU rfl _ _ 26 26 rfl _ _ (by simp[Act.eval,Act.put]) (by simp[Act.eval,Act.put]) (XE _ _ _) ?_)
 go_wp2_with (at_builtin;refine iH _ rfl _ _ 26 26 rfl _ _ rfl rfl (XF _ _) ?_)
 go_ret;exact⟨_,rfl,oo⟩
def I9 w{base b n c i vb m vc xs ys}(hs:w.ownsRow base 203 3 (.slice (some ⟨b,0,none⟩) n c) n xs)(hu:w.ownsRow base 203 3 (.slice (some ⟨vb,0,none⟩) m vc) m ys)(hi:i<n)(hm:0<m)(hb:n+m<=1000000000)(gF:c<n+m)(kA:base<=w.heap.size)
  (Ff:∀x∈xs,x.oneCell'=true) (h1:∀y∈ys,y.oneCell'=true) :
  Calls prog 253 #[.slice (some ⟨b,0,none⟩) n c,.int .i64 i,.slice (some ⟨vb,0,none⟩) m vc] w λe w'=>∃v',e=.returned v'/\gz base w (.slice (some ⟨b,0,none⟩) n c) (n+m) (xs.take (i*3)++ys++xs.drop (i*3)) v' w':=by
 have t3:=underlying3;have t22:=underlying26;have u3:=run_underlying underlying3;have u22:=run_underlying underlying26;obtain⟨FF,Dj,An,cur,hg,sZ,EG⟩:=lC hs;obtain⟨_,hvc,_,D3,UR,R,S⟩:=lC hu;obtain⟨inf,F,T,dE,U⟩:=pC;simp only[maxLen]at An;have mixed:=s7;have JK:¬((m:Int)=0):=by omega
 have hz2:¬((i:Int)=(n:Int)):=by omega
 have NN:(c:Int)<(n:Int)+(m:Int):=by omega
 have I:b<w.heap.size:=(hs.lt b rfl).2;have J:vb<w.heap.size:=(hu.lt vb rfl).2;have V:(n:Int)+(m:Int) - (i:Int)=((n+m-i:Nat):Int):=by omega
 have l:i+(n+m-i)=n+m:=by omega
 have Y:=hs.1;have s:=hu.1;have Z:∀j x,xs[j]?=some x->w.cell? ⟨b,j,none⟩=some x:=λj x H=>by have:=hs.cells (g:=b) rfl j x H;rwa [Addr.add_lit,zbh]at this
 have f:(Builtin.firstCells inf.size i (.slice (some ⟨b,0,none⟩) i c)).run prog w.drew=.ok (xs.take (i*3)).toArray w.drew:=by
  rw[dE];refine run_firstCells_some w.drew 3 i ⟨b,0,none⟩ i c (xs.take (i*3)) (by rw[zaw];omega) (λj v H=>?_);rw[Addr.add_lit,zbh];rw[zah]at H;split at H
  .exact Z j v H
  .cases H
 generalize K:(Value.agg _)=zv at T;have Bx:zv.cells.size=3:=by rw[←K];rfl
 have o:∀ty,(Builtin.append_ #[26,3] ty #[.slice (some ⟨b,0,none⟩) i c,.int .i64 ((n:Int)+(m:Int) - (i:Int))]).run prog w =
   .ok (.slice (some ⟨w.heap.size,0,none⟩) (n+m) (grownCap w (n+m) c 203)) (w.drew.alloc (.cells ((xs.take (i*3)).toArray++Builtin.zeroCells zv.cells (n+m-i)++Builtin.zeroCells zv.cells (grownCap w (n+m) c 203-(n+m))) 203)):=λty=>by
  have h:=Lib.run_append_grow_zeros w 26 3 ty 203 inf zv .i64 .i64 underlying26 underlying3 F T (some ⟨b,0,none⟩) i c (xs.take (i*3)) f (n+m-i) (by omega) (by omega) (by omega) (by omega) (by rw[U];omega) (by rw[l];exact growslice_fits gF (by rw[U];omega));rw[l]at h;rw[V];exact h
 have t:n+m<=grownCap w (n+m) c 203:=grownCap_ge w _ _ _;have XG:grownCap w (n+m) c 203<=maxLen:=grownCap_le_maxLen w (n+m) c 203 (by unfold maxLen;omega);generalize grownCap w (n+m) c 203=G at o t XG;simp only[maxLen]at XG;generalize a:(xs.take (i*3)).toArray++Builtin.zeroCells zv.cells (n+m-i)++Builtin.zeroCells zv.cells (G-(n+m))=u at o;have z:u.size=G*3:=by
  rw[←a];simp only[Array.size_append,zbp,zaw,size_zeroCells,Bx,Y];omega
 have M:u.toList.take (i*3)=xs.take (i*3):=by
  rw[←a];simp only[zge,zas];rw[zeb (by rw[zaw];omega),zbj (by rw[zaw];omega)]
 have p:u.toList.length=G*3:=by simpa using z
 have N:Nat.min m (n+m-i)=m:=pX (by omega);have O:Nat.min (n-i) (n+m-(i+m))=n-i:=pX (by omega);have E:(xs.drop (i*3)).length=(n-i)*3:=by rw[zbc,Y];omega
 have NO:i*3+ys.length<=u.toList.length:=by rw[s,p];omega
 have XH:∀(W:uC),W.heap[w.heap.size]?=some (.cells u 203 (0,0))->(∀x:Addr,x.block<w.heap.size->W.cell? x=w.cell? x)->∀ty A,(Builtin.copy_ #[26,26] ty #[.slice (some ⟨w.heap.size,i*3,none⟩) (n+m-i) A,.slice (some ⟨vb,0,none⟩) m vc]).run prog W=.ok (goInt (Nat.min m (n+m-i))) (W.setRow w.heap.size (laid u.toList (i*3) ys).toArray):=λW X P ty A =>
  lQ W underlying26 F dE X (by rw[s,N]) (λj v H=>by rw[P _ (by rw[Addr.add_lit];exact J)];exact hu.cells (g:=vb) rfl j v H) h1 (by rw[s,z];omega)
 generalize BF:laid u.toList (i*3) ys=L at XH;have EW:L.length=u.toList.length:=by rw[←BF];exact gI NO
 have NP:(i+m)*3+(xs.drop (i*3)).length<=L.length:=by rw[E,EW,p];omega
 have XI:∀(W:uC),W.heap[w.heap.size]?=some (.cells L.toArray 203 (0,0))->(∀x:Addr,x.block<w.heap.size->W.cell? x=w.cell? x)->∀ty A sc,(Builtin.copy_ #[26,26] ty #[.slice (some ⟨w.heap.size,(i+m)*3,none⟩) (n+m-(i+m)) A,.slice (some ⟨b,i*3,none⟩) (n-i) sc]).run prog W=.ok (goInt (Nat.min (n-i) (n+m-(i+m)))) (W.setRow w.heap.size (laid L ((i+m)*3) (xs.drop (i*3))).toArray):=λW X P ty A sc =>
  lQ W underlying26 F dE X (by rw[E,O]) (λj v H=>by
   rw[P _ (by rw[Addr.add_lit];exact I),Addr.add_lit];rw[zbd]at H;exact Z _ _ H) (λv hv=>Ff v (zca hv)) (by simp only[zbp];omega)
 generalize xx:laid L ((i+m)*3) (xs.drop (i*3))=L2 at XI;have Wf:L2.length=L.length:=by rw[←xx];exact gI NP
 have B7:∀W:uC,W.heap=w.heap.push (.cells u 203 (0,0))->W.heap[w.heap.size]?=some (.cells u 203 (0,0)):=λW d=>by rw[d];simp
 have B:∀W:uC,W.heap=w.heap.push (.cells u 203 (0,0))->∀x:Addr,x.block<w.heap.size->W.cell? x=w.cell? x:=λW d x hx=>World.cell?_of_block (w:=w) (by rw[d,zee hx];simp[hx]);have C:∀W:uC,W.heap=w.heap.push (.cells u 203 (0,0))->(W.setRow w.heap.size L.toArray).heap[w.heap.size]?=some (.cells L.toArray 203 (0,0)):=λW d=>setRow_heap W _ u _ 203 (0,0) (B7 W d)
 have V4:∀W:uC,W.heap=w.heap.push (.cells u 203 (0,0))->∀x:Addr,x.block<w.heap.size->(W.setRow w.heap.size L.toArray).cell? x=w.cell? x:=λW d x hx=>(World.cell?_of_block (w:=W) (setRow_other W _ x.block _ (by omega))).trans (B W d x hx)
 have oo:∀W q:uC,W.heap=w.heap.push (.cells u 203 (0,0))->W.os=w.os->W.tape=w.tape->W.output=w.output->q.heap=(W.setRow w.heap.size L.toArray).heap->q.os=w.os->q.tape=w.tape->q.output=w.output ->
   gz base w (.slice (some ⟨b,0,none⟩) n c) (n+m) (xs.take (i*3)++ys++xs.drop (i*3)) (.slice (some ⟨w.heap.size,0,none⟩) (n+m) G) (q.setRow w.heap.size L2.toArray):=by
  intro W q d ho ht hou r V3 Am D;have Q:q.heap[w.heap.size]?=some (.cells L.toArray 203 (0,0)):=by rw[r];exact C W d
  refine⟨⟨by simp only[zar,zaw,zbc];omega,.inr ⟨w.heap.size,G,_,rfl,kA,setRow_heap _ _ _ _ 203 (0,0) Q,t,by simp only[maxLen];omega,by rw[zbp,Wf,EW,p],?_⟩⟩,
   .inr ⟨rfl,⟨V3,Am,D,by simp[r,d],λk hk=>?_⟩⟩⟩
  .have e2:(L.take ((n+m)*3)).drop ((i+m)*3+(xs.drop (i*3)).length)=[]:=zch (by rw[zaw,E];omega);rw[zdd,←xx,ib NP (by rw[E];omega),e2,←BF];have e1:(laid u.toList (i*3) ys).take ((i+m)*3)=xs.take (i*3)++ys:=by
    rw[ib NO (by rw[s];omega),M,s,zch (by rw[zaw];omega),zbr]
   rw[e1,zbr]
  .rw[setRow_other _ _ k _ (by omega),r,setRow_other _ _ k _ (by omega),d,zee hk];simp[hk]
 clear V l f a;have hGi:¬(G=i):=by omega
 have hGim:¬(G=i+m):=by omega
 have wL:¬(c=i):=by omega
 have hw1:IntKind.i64.wrap ((i:Int)+(m:Int))=(i:Int)+(m:Int):=by rw[IntKind.wrap_i64];omega
 have IN:(0:Int)<=(i:Int)+(m:Int):=by omega
 have Db:i<=n:=by omega
 have htn:((i:Int)+(m:Int)).toNat=i+m:=by omega
 have hb3:(i:Int)<=(n:Int):=by omega
 have XJ:=XH (w.alloc (.cells u 203)).drew (B7 _ rfl) (B _ rfl);have XK:=XI ((w.alloc (.cells u 203)).drew.setRow w.heap.size L.toArray).drew (C _ rfl) (V4 (w.alloc (.cells u 203)).drew rfl);have XL:=oo (w.alloc (.cells u 203)).drew ((w.alloc (.cells u 203)).drew.setRow w.heap.size L.toArray).drew rfl rfl rfl rfl rfl rfl rfl rfl;go_enter func253,ntmps253
 go_wp2_with (first
  | (at_builtin;refine Lib.wpList_append_run _ rfl _ _ _ _ rfl _ _ rfl rfl _ _ (o _) ?_)
  | (at_builtin;refine iH _ rfl _ _ 26 26 rfl _ _ rfl rfl (XJ _ _) ?_))
 go_region_law_o (refine kU rfl _ _ 26 26 rfl _ _ (by simp[Act.eval,Act.put]) (by simp[Act.eval,Act.put]) (XK _ _ _) ?_)
 go_wp2
 go_ret;exact⟨_,rfl,XL⟩
def Lw w{base m A u ys}(hu:w.ownsRow base 203 3 u m ys)(hm:0<m)(d:m<=1000000000)(k:base<=w.heap.size)(h1:∀y∈ys,y.oneCell'=true):
  Calls prog 253 #[.slice A 0 0,.int .i64 0,u] w λe w'=>∃v',e=.returned v'/\gz base w (.slice none 0 0) m ys v' w':=by
 have t:=underlying3;have t22:=underlying26;have g:=run_underlying underlying3;have a:=run_underlying underlying26;have J:¬((m:Int)=0):=by omega
 obtain⟨i,hi,h,dE,B⟩:=pC;have hs:=World.ownsRow_nil w base 203 3;obtain⟨v',w',b,f,_,H⟩:=jA (P:=prog) (ty:=26) w underlying26 underlying26 (.inr ⟨_,rfl⟩) hi h dE (by rfl) hs (wx hu h1) (by simp only[maxLen];omega) (by rw[B];omega) k;rw[zbh,zcs]at f;have G:=((vL (ty:=26) underlying26 underlying26 (.inr ⟨_,rfl⟩) hi h dE (wx hu h1) (by omega) (by rw[B];omega) A).2 (by omega)).trans b;rcases hu.2 with⟨_,h0⟩|⟨vb,vc,D,rfl,_⟩
 .omega
 cases A with
 | none =>
  go_enter func253,ntmps253
  go_wp2_with (at_builtin;refine Lib.wpList_append_run _ rfl _ _ _ _ rfl _ _ rfl rfl _ _ G ?_)
  all_goals (go_ret;exact⟨_,rfl,f,H⟩)
 | some A =>
  obtain⟨j,ao,c⟩:=A;go_enter func253,ntmps253
  go_wp2_with (at_builtin;refine Lib.wpList_append_run _ rfl _ _ _ _ rfl _ _ rfl rfl _ _ G ?_)
  all_goals (go_ret;exact⟨_,rfl,f,H⟩)
def Ha w{base n m i:Nat}{v u xs ys}(hs:w.ownsRow base 203 3 v n xs)(hu:w.ownsRow base 203 3 u m ys)(d:∀b,v.ownBlock=some b->u.ownBlock≠some b)(hi:i<=n)(hm:0<m)(h:n+m<=1000000000)(k:base<=w.heap.size)
  (F:∀x∈xs,x.oneCell'=true) (h1:∀y∈ys,y.oneCell'=true) :
  Calls prog 253 #[v,.int .i64 i,u] w λe w'=>∃v',e=.returned v'/\gz base w v (n+m) (xs.take (i*3)++ys++xs.drop (i*3)) v' w':=by
 by_cases D:i=n
 .subst D;have a:=hs.1;rw[zbj (by omega),zch (by omega),zbr];exact Lu w hs hu hm h k h1
 .obtain⟨b,c,rfl⟩:=(fY hs).2 (by omega);obtain⟨vb,vc,rfl⟩:=(fY hu).2 (by omega);by_cases H:n+m<=c
  .exact G9 w hs hu (λe=>d b rfl (by rw[e];rfl)) (by omega) hm h H F h1
  .exact I9 w hs hu (by omega) hm h (by omega) k F h1
def Fm{l l' f n i r}(H:pZ i l l'=some r):
  bg prog 253 [.vc 0 f,.d (cI i),.vc 1 n] ⟨[],[⟨203,3,f,some (l.map Range.row)⟩,⟨203,3,n,some (l'.map Range.row)⟩]⟩
   (QE (.vc 2 r.length) ⟨[],[⟨203,3,([]:LQ Range).length,none⟩,⟨203,3,n,some (l'.map Range.row)⟩,⟨203,3,r.length,some (r.map Range.row)⟩]⟩):=by
 obtain⟨hk,H⟩:=iS H;cases H;intro g w base vs a ha;obtain⟨x,y,z,rfl,v,B,C⟩:=Xe rfl ha;obtain⟨N,O,k2,k3⟩:=hk;have P:y=.int .i64 i:=B.aO;subst P;obtain⟨xs,s1,s2,s3⟩:=a.own 0 _ _ _ _ rfl;obtain⟨ys,u,Q,o⟩:=a.own 1 _ _ _ _ rfl;have S:f=l.length:=by have:=s3.len;simpa using this.symm
 have D:n=l'.length:=by have:=o.len;simpa using this.symm
 have E:z=g.tk 1:=by
  rcases qu a rfl C with h|⟨_,h,_⟩
  .exact h
  .have:l'=[]:=by simpa using h
   rw[this]at k2;simp at k2
 subst E;obtain⟨j,rfl⟩:∃j:Nat,i=(j:Int):=⟨i.toNat,by omega⟩;have q:=s3.repl s1.1 o u.1 (i:=j) (j:=j) (zag _) (by omega);have F:(l.map Range.row).take j++l'.map Range.row++(l.map Range.row).drop j=(l.take j++l'++l.drop j).map Range.row:=by simp[zfe,zfs]
 rw[F,show j+n+(f-j)=f+n from by omega]at q;have k:(l.take j++l'++l.drop j).length=f+n:=by simp;omega
 have G:=s3.one s1.1;have m:=o.one u.1;have fin:∀v0:uB,(v0.ownBlock=(g.tk 0).ownBlock∨v0.ownBlock=none/\0<f+n)->∀e w',(∃v',e=.returned v'/\gz base w v0 (f+n) (xs.take (j*3)++ys++xs.drop (j*3)) v' w') ->
   mh ⟨g,w,⟨[],[⟨203,3,f,some (l.map Range.row)⟩,⟨203,3,n,some (l'.map Range.row)⟩]⟩,base⟩ (QE (.vc 2 (l.take (j:Int).toNat++l'++l.drop (j:Int).toNat).length) ⟨[],[⟨203,3,([]:LQ Range).length,none⟩,⟨203,3,n,some (l'.map Range.row)⟩,⟨203,3,(l.take (j:Int).toNat++l'++l.drop (j:Int).toNat).length,some ((l.take (j:Int).toNat++l'++l.drop (j:Int).toNat).map Range.row)⟩]⟩) e w':=by
  rintro v0 R e w' ⟨v',rfl,s,p⟩;rw[zcl,k];refine v7 a (tk:=0) rfl rfl s ?_ q;rcases p with⟨c1,c2,t⟩|p
  .rcases R with R|⟨R,T⟩
   .rw[R]at c1 t;exact .inl ⟨c1,c2,t⟩
   .rw[R]at c1;obtain⟨b,c,M⟩:=(fY s).2 (by omega);rw[M]at c1;cases c1
  .exact .inr p
 rcases qu a rfl v with hx|⟨h0,I,A,hx⟩
 .subst hx;refine(Ha w s1 u (λb h1 h2=>a.mo 0 1 _ _ b (by decide) rfl rfl h1 h2) (i:=j) (by omega) (by omega) (by omega) a.base G m).mono ?_;exact fin _ (.inl rfl)
 .subst hx;have J:j=0:=by omega
  subst J;have K:xs=[]:=zax (by rw[s1.1,h0,Nat.zero_mul]);subst K;refine(Lw w (A:=A) u (by omega) (by omega) a.base m).mono λe w' L=>fin (.slice none 0 0) (.inr ⟨rfl,by omega⟩) e w' ?_
  rw[h0,zbh];simpa using L
def Hb w{base b n c i j xs}(hs:w.ownsRow base 203 3 (.slice (some ⟨b,0,none⟩) n c) n xs)(h1:∀y∈xs,y.oneCell'=true)(hi:i<j)(hj:j<=n)(hb:n<=1000000000):
  Calls prog 255 #[.slice (some ⟨b,0,none⟩) n c,.int .i64 i,.int .i64 j] w λe w'=>∃v',e=.returned v'/\gz base w (.slice (some ⟨b,0,none⟩) n c) (i+(n-j)) (xs.take (i*3)++xs.drop (j*3)) v' w':=by
 have t3:=underlying3;have t22:=underlying26;have u3:=run_underlying underlying3;have X:=run_underlying underlying26;obtain⟨Y,Dj,Z,cur,hg,sZ,EG⟩:=lC hs;obtain⟨inf,I,J,dE,Bh⟩:=pC;simp only[maxLen]at Z;generalize d:(Value.agg _)=zv at J;have B:zv.cells.size=3:=by rw[←d];rfl
 have JK:∀v∈(Builtin.zeroCells zv.cells (n-(i+(n-j)))).toList,v.oneCell'=true:=tY (by rw[B,←d];decide);have uP:=hs.1;have r:cur.toList.length=c*3:=by simpa using sZ
 have H:(xs.drop (j*3)).length=(n-j)*3:=by rw[zbc,uP];omega
 have K:∀y∈xs.drop (j*3),y.oneCell'=true:=λy hy=>h1 y (zca hy)
 have s:i*3+(xs.drop (j*3)).length<=cur.toList.length:=by rw[H,r];omega
 have f:w.drew.heap[b]?=some (.cells cur 203 (0,0)):=hg;have oy:∀(q:Nat) (y:uB),xs[q]?=some y->w.drew.cell? ((⟨b,0,none⟩:Addr).add q)=some y:=hs.cells (g:=b) rfl;have t:(Builtin.firstCells 3 (n-j) (.slice (if c=j then some ⟨b,0,none⟩else some ⟨b,j*3,none⟩) (n-j) (c-j))).run prog w.drew=.ok (xs.drop (j*3)).toArray w.drew:=by
  by_cases h:c=j
  .have l:n-j=0:=by omega
   have x:xs.drop (j*3)=[]:=zax (by rw[H,l,Nat.zero_mul]);rw[zab h,l,x];exact run_firstCells_some w.drew _ 0 _ 0 (c-j) [] rfl (λq y u=>by simp at u)
  .rw[zaa h];exact run_firstCells_some w.drew _ (n-j) _ (n-j) (c-j) _ H λq y u=>by
    rw[zbd]at u;have:=oy (j*3+q) y u;simp only[Addr.add_lit,zbh]at this ⊢;exact this
 have a:∀ty,(Builtin.append_ #[26,26] ty #[.slice (some ⟨b,0,none⟩) i c,.slice (if c=j then some ⟨b,0,none⟩else some ⟨b,j*3,none⟩) (n-j) (c-j)]).run prog w.drew=.ok (.slice (some ⟨b,0,none⟩) (i+(n-j)) c) (w.drew.setRow b (laid cur.toList (i*3) (xs.drop (j*3))).toArray):=λty =>
  ES w.drew underlying26 I dE f (by omega) t K (by rw[←zbx];exact s)
 generalize hys:xs.drop (j*3)=ys at a s H K t ⊢;generalize M:laid cur.toList (i*3) ys=L at a;have E:L.length=cur.toList.length:=by rw[←M];exact gI s
 have N:(w.drew.setRow b L.toArray).heap[b]?=some (.cells L.toArray 203 (0,0)):=setRow_heap w.drew b cur _ 203 (0,0) f;have z:L.take ((i+(n-j))*3)=xs.take (i*3)++ys:=by
  have e1:(cur.toList.take ((i+(n-j))*3)).drop (i*3+ys.length)=[]:=zch (by rw[zaw,H];omega);rw[←M,ib s (by rw[H];omega),e1,zbr,←EG,zey,show min (i*3) (n*3)=i*3 from by omega]
 have p:(xs.take (i*3)++ys).length=(i+(n-j))*3:=by simp only[zar,zaw];omega
 have hm:i+(n-j)<n:=by omega
 have O:(i+(n-j))*3+(Builtin.zeroCells zv.cells (n-(i+(n-j)))).toList.length<=L.length:=by rw[zbx,size_zeroCells,B,E,r];omega
 have F:∀ty A,(Builtin.clear_ #[26] ty #[.slice (some ⟨b,(i+(n-j))*3,none⟩) (n-(i+(n-j))) A]).run prog (w.drew.setRow b L.toArray)=.ok (.tuple #[]) ((w.drew.setRow b L.toArray).setRow b (laid L ((i+(n-j))*3) (Builtin.zeroCells zv.cells (n-(i+(n-j)))).toList).toArray):=λty A=>by
  have:=Aw (P:=prog) (ty:=ty) (c:=A) (w.drew.setRow b L.toArray) (o:=(i+(n-j))*3) (n:=n-(i+(n-j))) underlying26 I J B N (by omega) (by rw[zbp,E,r];omega) JK;exact this
 generalize Q:laid L ((i+(n-j))*3) (Builtin.zeroCells zv.cells (n-(i+(n-j)))).toList=C at F;have Wf:C.length=L.length:=by rw[←Q];exact gI O
 have D:C.take ((i+(n-j))*3)=xs.take (i*3)++ys:=by rw[←Q,Ax O (zag _),z]
 have R:gz base w (.slice (some ⟨b,0,none⟩) n c) (i+(n-j)) (xs.take (i*3)++ys) (.slice (some ⟨b,0,none⟩) (i+(n-j)) c) ((w.drew.setRow b L.toArray).setRow b C.toArray) :=
  ⟨⟨p,.inr ⟨b,c,_,rfl,Y,setRow_heap _ b _ _ 203 (0,0) N,by omega,by simp only[maxLen];omega,by rw[zbp,Wf,E,r],by rw[zdd,D]⟩⟩,
   .inl ⟨rfl,by simp,⟨rfl,rfl,rfl,by simp,λk hk S=>by rw[setRow_other _ b k _ (λe=>S (by rw[e];rfl)),setRow_other _ b k _ (λe=>S (by rw[e];rfl))];rfl⟩⟩⟩
 generalize hmg:n-j=m at *;obtain rfl:j=n-m:=by omega
 have Db:i<=n:=by omega
 have hic:i<=c:=by omega
 have T:n-m<=c:=by omega
 have U:n-m<=n:=by omega
 have G:=s7;have V:i<=n-m:=by omega
 have hb0:(0:Int)<=(i:Int):=by omega
 have wL:¬(c=i):=by omega
 have W:¬(c=i+m):=by omega
 have hle:i+m<=n:=by omega
 have dz:¬((i:Int)=((n-m:Nat):Int)):=by omega
 by_cases h:c=n-m
 .subst h;rw[zab rfl]at t;simp only[zab]at a;go_enter func255,ntmps255
  go_wp2
  go_region_law_o (refine zT rfl _ _ 26 rfl _ _ (by simp[Act.eval,Act.put]) (by simp[Act.eval,Act.put]) (a _) ?_)
  go_wp2_with (at_builtin;refine je _ rfl _ 26 rfl _ rfl (F _ _) ?_)
  all_goals (go_ret;exact⟨_,rfl,R⟩)
 .rw[zaa h]at t;simp only[zaa h]at a;go_enter func255,ntmps255
  go_wp2
  go_region_law_o (refine zT rfl _ _ 26 rfl _ _ (by simp[Act.eval,Act.put]) (by simp[Act.eval,Act.put]) (a _) ?_)
  go_wp2_with (at_builtin;refine je _ rfl _ 26 rfl _ rfl (F _ _) ?_)
  all_goals (go_ret;exact⟨_,rfl,R⟩)
def wW{l n i j r}(H:mO i j l=some r):
  bg prog 255 [.vc 0 n,.d (cI i),.d (cI j)] ⟨[],[⟨203,3,n,some (l.map Range.row)⟩]⟩
   (QE (.vc 1 r.length) ⟨[],[⟨203,3,([]:LQ Range).length,none⟩,⟨203,3,r.length,some (r.map Range.row)⟩]⟩):=by
 obtain⟨hk,H⟩:=iS H;cases H;intro g w base vs a ha;obtain⟨x,y,z,rfl,u,v,A⟩:=Xe rfl ha;obtain⟨E,G,k2,k3⟩:=hk;have P:y=.int .i64 i:=v.aO;have p:z=.int .i64 j:=A.aO;subst P;subst p;obtain⟨xs,s1,s2,s3⟩:=a.own 0 _ _ _ _ rfl;have J:n=l.length:=by have:=s3.len;simpa using this.symm
 have hx:x=g.tk 0:=by
  rcases qu a rfl u with h|⟨_,h,_⟩
  .exact h
  .have:l=[]:=by simpa using h
   rw[this]at k2;simp at k2;omega
 subst hx;obtain⟨f,rfl⟩:∃q:Nat,i=(q:Int):=⟨i.toNat,by omega⟩;obtain⟨m,rfl⟩:∃q:Nat,j=(q:Int):=⟨j.toNat,by omega⟩;have t:=(s3.take (k:=f) (by omega)).app (by rw[zaw,s1.1];have:f*3<=n*3:=zbn _ (by omega);omega) (s3.drop (k:=m) (by omega));have B:(l.map Range.row).take f++(l.map Range.row).drop m=(l.take f++l.drop m).map Range.row:=by simp[zfe,zfs]
 rw[B]at t;have o:(l.take f++l.drop m).length=f+(n-m):=by simp;omega
 obtain⟨b,c,hv⟩:=(fY s1).2 (by omega);have F:=s3.one s1.1;have s:=s1;rw[hv]at s;have hw:=Hb w s F (i:=f) (j:=m) (by omega) (by omega) (by omega);rw[←hv]at hw;refine hw.mono ?_;rintro e w' ⟨v',rfl,C,D⟩;rw[zcl,zcl,o];exact v7 a (tk:=0) rfl rfl C D t
def wX{l r}(H:il l=some r):bg prog 66 [.d (au 3 Range.row l)] ⟨[],[]⟩ (QE (.vc 0 r.length) ⟨[],[⟨203,3,r.length,some (r.map Range.row)⟩]⟩):=by
 obtain⟨hk,H⟩:=iS H;cases H;obtain⟨i32,h,L,C,c⟩:=pC;refine bg.Dw ?_;refine bg.enter func66 rfl ntmps66 rfl λS g=>?_
 refine wh trivial (.B 8 [] rfl λ_=>?_);refine .Nz underlying26 rfl rfl λb f=>?_
 refine wh trivial (.A 1 [] rfl λ_=>?_);refine .cond rfl (λa=>?_) (λa=>?_)
 .have hl:l=[]:=by simpa using f a
  subst hl;refine wh trivial (.A 4 [] rfl λ_=>?_);refine .Uz (i:=2) (e:=203) (sz:=3) rfl ?_;refine .rc cE func66 results66 rfl ?_;exact⟨[],[0],rfl,rfl,rfl,rfl,rfl,rfl,rfl,rfl,.aW _⟩
 .refine wh trivial (.B 3 [] rfl λ_=>?_);refine .v (x:=.vc 0 ([]:LQ Range).length) (uT Range.row underlying26 h C) rfl ?_;refine .tX (st':=⟨[],[⟨203,3,([]:LQ Range).length,some (([]:LQ Range).map Range.row)⟩]⟩) rfl ?_;refine wh trivial (.B 1 [] rfl λ_=>?_);refine .v (x:=.vc 0 (([]:LQ Range)++l).length) (oa (l:=[]) (l':=l) (row:=Range.row) underlying26 h L C rfl (by rw[c];decide) rfl rfl rfl rfl (by simpa using hk)) rfl ?_;refine .tX (st':=⟨[],[⟨203,3,(([]:LQ Range)++l).length,some ((([]:LQ Range)++l).map Range.row)⟩]⟩) rfl ?_;refine wh trivial (.A 2 [] rfl λ_=>?_);refine .rc cE func66 results66 rfl ?_;exact⟨[],[0],rfl,rfl,rfl,rfl,rfl,rfl,rfl,rfl,.aW _⟩
def xX{l r}(H:il l=some r):aR prog 66 [au 3 Range.row l] (·=au 3 Range.row r):=.of (wX H).Xf
def xY{l r}(H:od l=some r):bg prog 67 [.d (au 4 Head.row l)] ⟨[],[]⟩ (QE (.vc 0 r.length) ⟨[],[⟨80,4,r.length,some (r.map Head.row)⟩]⟩):=by
 obtain⟨hk,H⟩:=iS H;cases H;obtain⟨i32,h,L,C,c⟩:=Sn;refine bg.Dw ?_;refine bg.enter func67 rfl ntmps67 rfl λS g=>?_
 refine wh trivial (.B 8 [] rfl λ_=>?_);refine .Nz underlying28 rfl rfl λb f=>?_
 refine wh trivial (.A 1 [] rfl λ_=>?_);refine .cond rfl (λa=>?_) (λa=>?_)
 .have hl:l=[]:=by simpa using f a
  subst hl;refine wh trivial (.A 4 [] rfl λ_=>?_);refine .Uz (i:=2) (e:=80) (sz:=4) rfl ?_;refine .rc cE func67 results67 rfl ?_;exact⟨[],[0],rfl,rfl,rfl,rfl,rfl,rfl,rfl,rfl,.aW _⟩
 .refine wh trivial (.B 3 [] rfl λ_=>?_);refine .v (x:=.vc 0 ([]:LQ Head).length) (uT Head.row underlying28 h C) rfl ?_;refine .tX (st':=⟨[],[⟨80,4,([]:LQ Head).length,some (([]:LQ Head).map Head.row)⟩]⟩) rfl ?_;refine wh trivial (.B 1 [] rfl λ_=>?_);refine .v (x:=.vc 0 (([]:LQ Head)++l).length) (oa (l:=[]) (l':=l) (row:=Head.row) underlying28 h L C rfl (by rw[c];decide) rfl rfl rfl rfl (by simpa using hk)) rfl ?_;refine .tX (st':=⟨[],[⟨80,4,(([]:LQ Head)++l).length,some ((([]:LQ Head)++l).map Head.row)⟩]⟩) rfl ?_;refine wh trivial (.A 2 [] rfl λ_=>?_);refine .rc cE func67 results67 rfl ?_;exact⟨[],[0],rfl,rfl,rfl,rfl,rfl,rfl,rfl,rfl,.aW _⟩
def Ja{l r}(H:od l=some r):aR prog 67 [au 4 Head.row l] (·=au 4 Head.row r):=.of (xY H).Xf
def D5{l r}(H:ua l=some r):bg prog 69 [.d (au 4 ai.row l)] ⟨[],[]⟩ (QE (.vc 0 r.length) ⟨[],[⟨195,4,r.length,some (r.map ai.row)⟩]⟩):=by
 obtain⟨hk,H⟩:=iS H;cases H;obtain⟨i32,h,L,C,c⟩:=K9;refine bg.Dw ?_;refine bg.enter func69 rfl ntmps69 rfl λS g=>?_
 refine wh trivial (.B 8 [] rfl λ_=>?_);refine .Nz underlying32 rfl rfl λb f=>?_
 refine wh trivial (.A 1 [] rfl λ_=>?_);refine .cond rfl (λa=>?_) (λa=>?_)
 .have hl:l=[]:=by simpa using f a
  subst hl;refine wh trivial (.A 4 [] rfl λ_=>?_);refine .Uz (i:=2) (e:=195) (sz:=4) rfl ?_;refine .rc cE func69 results69 rfl ?_;exact⟨[],[0],rfl,rfl,rfl,rfl,rfl,rfl,rfl,rfl,.aW _⟩
 .refine wh trivial (.B 3 [] rfl λ_=>?_);refine .v (x:=.vc 0 ([]:LQ ai).length) (uT ai.row underlying32 h C) rfl ?_;refine .tX (st':=⟨[],[⟨195,4,([]:LQ ai).length,some (([]:LQ ai).map ai.row)⟩]⟩) rfl ?_;refine wh trivial (.B 1 [] rfl λ_=>?_);refine .v (x:=.vc 0 (([]:LQ ai)++l).length) (oa (l:=[]) (l':=l) (row:=ai.row) underlying32 h L C rfl (by rw[c];decide) rfl rfl rfl rfl (by simpa using hk)) rfl ?_;refine .tX (st':=⟨[],[⟨195,4,(([]:LQ ai)++l).length,some ((([]:LQ ai)++l).map ai.row)⟩]⟩) rfl ?_;refine wh trivial (.A 2 [] rfl λ_=>?_);refine .rc cE func69 results69 rfl ?_;exact⟨[],[0],rfl,rfl,rfl,rfl,rfl,rfl,rfl,rfl,.aW _⟩
def Fo{l r}(H:wa l=some r):bg prog 68 [.d (au 12 bC.row l)] ⟨[],[]⟩ (QE (.vc 0 r.length) ⟨[],[⟨50,12,r.length,some (r.map bC.row)⟩]⟩):=by
 obtain⟨hk,H⟩:=iS H;cases H;obtain⟨i32,h,L,C,c⟩:=GP;refine bg.Dw ?_;refine bg.enter func68 rfl ntmps68 rfl λS g=>?_
 refine wh trivial (.B 8 [] rfl λ_=>?_);refine .Nz underlying31 rfl rfl λb f=>?_
 refine wh trivial (.A 1 [] rfl λ_=>?_);refine .cond rfl (λa=>?_) (λa=>?_)
 .have hl:l=[]:=by simpa using f a
  subst hl;refine wh trivial (.A 4 [] rfl λ_=>?_);refine .Uz (i:=2) (e:=50) (sz:=12) rfl ?_;refine .rc cE func68 results68 rfl ?_;exact⟨[],[0],rfl,rfl,rfl,rfl,rfl,rfl,rfl,rfl,.aW _⟩
 .refine wh trivial (.B 3 [] rfl λ_=>?_);refine .v (x:=.vc 0 ([]:LQ bC).length) (uT bC.row underlying31 h C) rfl ?_;refine .tX (st':=⟨[],[⟨50,12,([]:LQ bC).length,some (([]:LQ bC).map bC.row)⟩]⟩) rfl ?_;refine wh trivial (.B 1 [] rfl λ_=>?_);refine .v (x:=.vc 0 (([]:LQ bC)++l).length) (oa (l:=[]) (l':=l) (row:=bC.row) underlying31 h L C rfl (by rw[c];decide) rfl rfl rfl rfl (by simpa using hk)) rfl ?_;refine .tX (st':=⟨[],[⟨50,12,(([]:LQ bC)++l).length,some ((([]:LQ bC)++l).map bC.row)⟩]⟩) rfl ?_;refine wh trivial (.A 2 [] rfl λ_=>?_);refine .rc cE func68 results68 rfl ?_;exact⟨[],[0],rfl,rfl,rfl,rfl,rfl,rfl,rfl,rfl,.aW _⟩
end Go.Proofs.YtleflofddacmdaaGreatDoor
namespace Go.Proofs.YtleflofddacmdaaGreatDoor
open Go.Shelf Go.Proofs.Tryz
def Tryz.Lx:Go.Shelf.Ren:=⟨fun|6=>62|15=>142|14=>141|28=>264|29=>265|20=>256|21=>257|22=>258|23=>259|24=>260|25=>261|26=>262|27=>263|46=>394|47=>395|48=>396|49=>397|50=>398|57=>529|n=>n,fun|22=>32|24=>195|25=>198|3=>3|39=>294|0=>0|53=>293|55=>470|4=>4|46=>463|45=>462|50=>372|5=>5|9=>9|66=>603|70=>179|76=>710|77=>411|n=>n,fun|n=>n⟩
def Tryz.NQ:Go.Proofs.SlLaysF0.n6 prog Tryz.Lx:={
 mixed:=by kernel_rfl
 f6:=⟨f62.name,by decide,func62.trans (zaq some (by kernel_rfl))⟩
 f14:=⟨f141.name,by decide,func141.trans (zaq some (by kernel_rfl))⟩
 f15:=func142.trans (zaq some (by kernel_rfl))
 f20:=⟨f256.name,by decide,func256.trans (zaq some (by kernel_rfl))⟩
 f21:=⟨f257.name,by decide,func257.trans (zaq some (by kernel_rfl))⟩
 f22:=⟨f258.name,by decide,func258.trans (zaq some (by kernel_rfl))⟩
 f23:=⟨f259.name,by decide,func259.trans (zaq some (by kernel_rfl))⟩
 f24:=⟨f260.name,by decide,func260.trans (zaq some (by kernel_rfl))⟩
 f25:=⟨f261.name,by decide,func261.trans (zaq some (by kernel_rfl))⟩
 f26:=⟨f262.name,by decide,func262.trans (zaq some (by kernel_rfl))⟩
 f27:=⟨f263.name,by decide,func263.trans (zaq some (by kernel_rfl))⟩
 f28:=func264.trans (zaq some (by kernel_rfl))
 f29:=func265.trans (zaq some (by kernel_rfl))
 f46:=⟨f394.name,by decide,func394.trans (zaq some (by kernel_rfl))⟩
 f47:=func395.trans (zaq some (by kernel_rfl))
 f48:=func396.trans (zaq some (by kernel_rfl))
 f49:=⟨f397.name,by decide,func397.trans (zaq some (by kernel_rfl))⟩
 f50:=⟨f398.name,by decide,func398.trans (zaq some (by kernel_rfl))⟩
 f57:=⟨f529.name,by decide,func529.trans (zaq some (by kernel_rfl))⟩
 t0:=underlying0
 a0:=Tryz.isAgg0
 z0:=Tryz.sizeOf0
 v0:=Tryz.zeroValue0
 t3:=underlying3
 a3:=Tryz.isAgg3
 z3:=Tryz.sizeOf3
 v3:=Tryz.zeroValue3
 t4:=underlying4
 a4:=Tryz.isAgg4
 z4:=Tryz.sizeOf4
 v4:=Tryz.zeroValue4
 t5:=underlying5
 a5:=Tryz.isAgg5
 z5:=Tryz.sizeOf5
 v5:=Tryz.zeroValue5
 t9:=underlying9
 a9:=Tryz.isAgg9
 z9:=Tryz.sizeOf9
 v9:=Tryz.zeroValue9
 t22:=underlying32
 a22:=Tryz.isAgg32
 z22:=Tryz.sizeOf32
 v22:=Tryz.zeroValue32
 t25:=underlying198
 a25:=Tryz.isAgg198
 z25:=Tryz.sizeOf198
 v25:=Tryz.zeroValue198
 t39:=underlying294
 a39:=Tryz.isAgg294
 z39:=Tryz.sizeOf294
 v39:=Tryz.zeroValue294
 t45:=underlying462
 a45:=Tryz.isAgg462
 z45:=Tryz.sizeOf462
 v45:=Tryz.zeroValue462
 t46:=underlying463
 a46:=Tryz.isAgg463
 z46:=Tryz.sizeOf463
 v46:=Tryz.zeroValue463
 t50:=underlying372
 a50:=Tryz.isAgg372
 z50:=Tryz.sizeOf372
 v50:=Tryz.zeroValue372
 t53:=underlying293
 a53:=Tryz.isAgg293
 z53:=Tryz.sizeOf293
 v53:=Tryz.zeroValue293
 t55:=underlying470
 a55:=Tryz.isAgg470
 z55:=Tryz.sizeOf470
 v55:=Tryz.zeroValue470
 t66:=underlying603
 a66:=Tryz.isAgg603
 z66:=Tryz.sizeOf603
 v66:=Tryz.zeroValue603
 t70:=underlying179
 a70:=Tryz.isAgg179
 z70:=Tryz.sizeOf179
 v70:=Tryz.zeroValue179
 t76:=underlying710
 a76:=Tryz.isAgg710
 z76:=Tryz.sizeOf710
 v76:=Tryz.zeroValue710
 t77:=underlying411
 a77:=Tryz.isAgg411
 z77:=Tryz.sizeOf411
 v77:=Tryz.zeroValue411 }
def Tryz.EY:Go.Shelf.Ren:=⟨fun|156=>251|165=>389|166=>36|169=>37|240=>107|241=>527|276=>217|277=>612|n=>n,fun|31=>216|9=>9|3=>3|4=>4|0=>0|20=>20|72=>143|76=>151|70=>141|37=>42|75=>150|127=>257|164=>420|5=>5|80=>153|n=>n,fun|n=>n⟩
def Tryz.SI:Go.Proofs.Lays.n156 prog Tryz.EY:={
 mixed:=by kernel_rfl
 f156:=func251.trans (zaq some (by kernel_rfl))
 f165:=func389.trans (zaq some (by kernel_rfl))
 f166:=func36.trans (zaq some (by kernel_rfl))
 f169:=func37.trans (zaq some (by kernel_rfl))
 f240:=func107.trans (zaq some (by kernel_rfl))
 f241:=func527.trans (zaq some (by kernel_rfl))
 f276:=func217.trans (zaq some (by kernel_rfl))
 f277:=func612.trans (zaq some (by kernel_rfl))
 t0:=underlying0
 a0:=Tryz.isAgg0
 z0:=Tryz.sizeOf0
 v0:=Tryz.zeroValue0
 t3:=underlying3
 a3:=Tryz.isAgg3
 z3:=Tryz.sizeOf3
 v3:=Tryz.zeroValue3
 t4:=underlying4
 a4:=Tryz.isAgg4
 z4:=Tryz.sizeOf4
 v4:=Tryz.zeroValue4
 t9:=underlying9
 a9:=Tryz.isAgg9
 z9:=Tryz.sizeOf9
 v9:=Tryz.zeroValue9
 t20:=underlying20
 a20:=Tryz.isAgg20
 z20:=Tryz.sizeOf20
 v20:=Tryz.zeroValue20
 t31:=underlying216
 a31:=Tryz.isAgg216
 z31:=Tryz.sizeOf216
 v31:=Tryz.zeroValue216
 t37:=underlying42
 a37:=Tryz.isAgg42
 z37:=Tryz.sizeOf42
 v37:=Tryz.zeroValue42
 t70:=underlying141
 a70:=Tryz.isAgg141
 z70:=Tryz.sizeOf141
 v70:=Tryz.zeroValue141
 t72:=underlying143
 a72:=Tryz.isAgg143
 z72:=Tryz.sizeOf143
 v72:=Tryz.zeroValue143
 t75:=underlying150
 a75:=Tryz.isAgg150
 z75:=Tryz.sizeOf150
 v75:=Tryz.zeroValue150
 t76:=underlying151
 a76:=Tryz.isAgg151
 z76:=Tryz.sizeOf151
 v76:=Tryz.zeroValue151
 t127:=underlying257
 a127:=Tryz.isAgg257
 z127:=Tryz.sizeOf257
 v127:=Tryz.zeroValue257
 t164:=underlying420
 a164:=Tryz.isAgg420
 z164:=Tryz.sizeOf420
 v164:=Tryz.zeroValue420 }
def Tryz.tK:Builder.Extra prog Tryz.EY:={
 sizeBuilder:=by kernel_rfl
 liesBuilder:=by kernel_rfl
 t5:=underlying5
 a5:=Tryz.isAgg5
 z5:=Tryz.sizeOf5
 v5:=Tryz.zeroValue5
 infoByte:=by kernel_rfl
 cellsByte:=by kernel_rfl
 sizeByte:=by kernel_rfl
 neB5:=by decide }
open Go.RowKit in
def Tryz.strings_Join_none(a:LX Addr)(c:Nat)(sep:ByteArray)(w:uC):
  Calls prog 251 #[.slice a 0 c,.string sep] w λe w'=>e=.returned (.string ⟨#[]⟩)/\w'=w:=Any.strings_Join_none Tryz.SI Tryz.tK a c sep w
open Go.RowKit in
def Tryz.strings_Join(b o c:Nat)(xs:LQ ByteArray)(sep:ByteArray)(w:uC)(h:∀(j:Nat) x,xs[j]?=some x->w.cell? ⟨b,o+j,none⟩=some (.string x))(I:b<w.heap.size)(H:xs.length<=140737488355328)(F:xs.length<=c)(hlen:(Lib.join (xs.map (·.data.toList)) sep.data.toList).length<=140737488355328):
  Calls prog 251 #[.slice (some ⟨b,o,none⟩) xs.length c,.string sep] w λe w'=>e=.returned (.string ⟨(Lib.join (xs.map (·.data.toList)) sep.data.toList).toArray⟩)/\Below w.heap.size w w':=Any.strings_Join Tryz.SI Tryz.tK b o c xs sep w h I H F hlen
def Tryz.NR:Go.Shelf.Ren:=⟨fun|104=>245|211=>386|207=>526|n=>n,fun|9=>9|4=>4|24=>375|3=>3|n=>n,fun|n=>n⟩
def Tryz.lays104:Go.Proofs.Lays.n104 prog Tryz.NR:={
 mixed:=by kernel_rfl
 f104:=func245.trans (zaq some (by kernel_rfl))
 f207:=func526.trans (zaq some (by kernel_rfl))
 f211:=func386.trans (zaq some (by kernel_rfl))
 t3:=underlying3
 a3:=Tryz.isAgg3
 z3:=Tryz.sizeOf3
 v3:=Tryz.zeroValue3
 t4:=underlying4
 a4:=Tryz.isAgg4
 z4:=Tryz.sizeOf4
 v4:=Tryz.zeroValue4
 t9:=underlying9
 a9:=Tryz.isAgg9
 z9:=Tryz.sizeOf9
 v9:=Tryz.zeroValue9
 t24:=underlying375
 a24:=Tryz.isAgg375
 z24:=Tryz.sizeOf375
 v24:=Tryz.zeroValue375 }
open Go.RowKit in
def Tryz.strings_CutSuffix(s p:ByteArray)(w:uC)(hs:s.size<=9223372036854775807):
  Calls prog 245 #[.string s,.string p] w λe w'=>e=.returned (.tuple #[.string ⟨(Lib.trimSuffix s.data.toList p.data.toList).toArray⟩,.bool (Lib.hasSuffix s.data.toList p.data.toList)])/\w'=w:=Any.strings_CutSuffix Tryz.lays104 s p w hs
def Tryz.NT:Go.Shelf.Ren:=⟨fun|122=>64|215=>143|n=>n,fun|3=>3|4=>4|n=>n,fun|n=>n⟩
def Tryz.lays122:Go.Proofs.Lays.n122 prog Tryz.NT:={
 mixed:=by kernel_rfl
 f122:=func64.trans (zaq some (by kernel_rfl))
 f215:=func143.trans (zaq some (by kernel_rfl))
 t3:=underlying3
 a3:=Tryz.isAgg3
 z3:=Tryz.sizeOf3
 v3:=Tryz.zeroValue3
 t4:=underlying4
 a4:=Tryz.isAgg4
 z4:=Tryz.sizeOf4
 v4:=Tryz.zeroValue4 }
open Go.RowKit in
def Tryz.cmp_Compare_int(x y:Int)(w:uC):
  Calls prog 64 #[.int .i64 x,.int .i64 y] w λe w'=>e=.returned (.int .i64 (Lib.compareInt x y))/\w'=w:=Any.cmp_Compare_int Tryz.lays122 x y w
def Tryz.Ly:Go.Shelf.Ren:=⟨fun|171=>106|243=>216|246=>352|283=>502|284=>503|285=>504|286=>505|129=>265|317=>595|318=>596|319=>597|320=>598|337=>665|338=>666|n=>n,fun|3=>3|9=>9|2=>2|4=>4|171=>689|0=>0|53=>470|37=>42|5=>5|173=>691|212=>770|51=>293|20=>20|213=>771|46=>294|232=>904|233=>905|n=>n,fun|17=>2|18=>7|19=>8|n=>n⟩
def Tryz.XM:Go.Proofs.LaysM.n171 prog Tryz.Ly:={
 mixed:=by kernel_rfl
 f129:=func265.trans (zaq some (by kernel_rfl))
 f171:=func106.trans (zaq some (by kernel_rfl))
 f243:=func216.trans (zaq some (by kernel_rfl))
 f246:=func352.trans (zaq some (by kernel_rfl))
 f283:=func502.trans (zaq some (by kernel_rfl))
 f284:=func503.trans (zaq some (by kernel_rfl))
 f285:=func504.trans (zaq some (by kernel_rfl))
 f286:=func505.trans (zaq some (by kernel_rfl))
 f317:=func595.trans (zaq some (by kernel_rfl))
 f318:=func596.trans (zaq some (by kernel_rfl))
 f319:=func597.trans (zaq some (by kernel_rfl))
 f320:=func598.trans (zaq some (by kernel_rfl))
 f337:=func665.trans (zaq some (by kernel_rfl))
 f338:=func666.trans (zaq some (by kernel_rfl))
 t0:=underlying0
 a0:=Tryz.isAgg0
 z0:=Tryz.sizeOf0
 v0:=Tryz.zeroValue0
 t2:=underlying2
 a2:=Tryz.isAgg2
 z2:=Tryz.sizeOf2
 v2:=Tryz.zeroValue2
 t3:=underlying3
 a3:=Tryz.isAgg3
 z3:=Tryz.sizeOf3
 v3:=Tryz.zeroValue3
 t4:=underlying4
 a4:=Tryz.isAgg4
 z4:=Tryz.sizeOf4
 v4:=Tryz.zeroValue4
 t5:=underlying5
 a5:=Tryz.isAgg5
 z5:=Tryz.sizeOf5
 v5:=Tryz.zeroValue5
 t9:=underlying9
 a9:=Tryz.isAgg9
 z9:=Tryz.sizeOf9
 v9:=Tryz.zeroValue9
 t20:=underlying20
 a20:=Tryz.isAgg20
 z20:=Tryz.sizeOf20
 v20:=Tryz.zeroValue20
 t37:=underlying42
 a37:=Tryz.isAgg42
 z37:=Tryz.sizeOf42
 v37:=Tryz.zeroValue42
 t46:=underlying294
 a46:=Tryz.isAgg294
 z46:=Tryz.sizeOf294
 v46:=Tryz.zeroValue294
 t51:=underlying293
 a51:=Tryz.isAgg293
 z51:=Tryz.sizeOf293
 v51:=Tryz.zeroValue293
 t53:=underlying470
 a53:=Tryz.isAgg470
 z53:=Tryz.sizeOf470
 v53:=Tryz.zeroValue470
 t171:=underlying689
 a171:=Tryz.isAgg689
 z171:=Tryz.sizeOf689
 v171:=Tryz.zeroValue689
 t173:=underlying691
 a173:=Tryz.isAgg691
 z173:=Tryz.sizeOf691
 v173:=Tryz.zeroValue691
 t212:=underlying770
 a212:=Tryz.isAgg770
 z212:=Tryz.sizeOf770
 v212:=Tryz.zeroValue770
 t213:=underlying771
 a213:=Tryz.isAgg771
 z213:=Tryz.sizeOf771
 t232:=underlying904
 a232:=Tryz.isAgg904
 z232:=Tryz.sizeOf904
 v232:=Tryz.zeroValue904
 t233:=underlying905
 a233:=Tryz.isAgg905
 z233:=Tryz.sizeOf905
 v233:=Tryz.zeroValue905
 g17:=by kernel_rfl
 g18:=by kernel_rfl
 g19:=by kernel_rfl
 i0:=by kernel_rfl
 i2:=by kernel_rfl
 i3:=by kernel_rfl
 i4:=by kernel_rfl
 i5:=by kernel_rfl
 i9:=by kernel_rfl
 i20:=by kernel_rfl
 i37:=by kernel_rfl
 i46:=by kernel_rfl
 i51:=by kernel_rfl
 i53:=by kernel_rfl
 i171:=by kernel_rfl
 i173:=by kernel_rfl
 i212:=by kernel_rfl
 i232:=by kernel_rfl
 i233:=by kernel_rfl
 m17:=by kernel_rfl
 m18:=by kernel_rfl
 m19:=by kernel_rfl }
open Go.RowKit Go.Sort Go.Lib in
def Tryz.strconv_Itoa (n:Int) (h0:-9223372036854775808<=n) (h1:n<=9223372036854775807) (w:uC) (h:Lib.TabIs prog w "internal/strconv.uint64pow10" .u64 Lib.pow10Tab) :
  Calls prog 106 #[.int .i64 n] w λe w'=>e=.returned (.string ⟨(Lib.itoa n).toArray⟩)/\∃k os,w'=grow (w.drewN k) os:=Any.strconv_Itoa Tryz.XM n h0 h1 w h
def Tryz.NU:Go.Shelf.Ren:=⟨fun|217=>433|266=>555|n=>n,fun|9=>9|5=>5|3=>3|n=>n,fun|n=>n⟩
def Tryz.lays217:Go.Proofs.Lays.n217 prog Tryz.NU:={
 mixed:=by kernel_rfl
 f217:=func433.trans (zaq some (by kernel_rfl))
 f266:=func555.trans (zaq some (by kernel_rfl))
 t3:=underlying3
 a3:=Tryz.isAgg3
 z3:=Tryz.sizeOf3
 v3:=Tryz.zeroValue3
 t5:=underlying5
 a5:=Tryz.isAgg5
 z5:=Tryz.sizeOf5
 v5:=Tryz.zeroValue5
 t9:=underlying9
 a9:=Tryz.isAgg9
 z9:=Tryz.sizeOf9
 v9:=Tryz.zeroValue9 }
open Go.RowKit Go.Lib in
def Tryz.stringslite_IndexByte(s:ByteArray)(c:Int)(w:uC):
  Calls prog 433 #[.string s,.int .u8 c] w λe w'=>e=.returned (.int .i64 (Lib.indexByte s.data.toList c.toNat.toUInt8))/\w'=w:=Any.stringslite_IndexByte Tryz.lays217 s c w
def Tryz.NV:Go.Shelf.Ren:=⟨fun|143=>247|219=>299|217=>433|225=>434|224=>435|267=>436|266=>555|314=>556|n=>n,fun|9=>9|3=>3|4=>4|5=>5|46=>294|146=>746|51=>293|n=>n,fun|1=>0|n=>n⟩
def Tryz.lays143:Go.Proofs.Lays.n143 prog Tryz.NV:={
 mixed:=by kernel_rfl
 f143:=func247.trans (zaq some (by kernel_rfl))
 f217:=func433.trans (zaq some (by kernel_rfl))
 f219:=func299.trans (zaq some (by kernel_rfl))
 f224:=func435.trans (zaq some (by kernel_rfl))
 f225:=func434.trans (zaq some (by kernel_rfl))
 f266:=func555.trans (zaq some (by kernel_rfl))
 f267:=func436.trans (zaq some (by kernel_rfl))
 f314:=func556.trans (zaq some (by kernel_rfl))
 t3:=underlying3
 a3:=Tryz.isAgg3
 z3:=Tryz.sizeOf3
 v3:=Tryz.zeroValue3
 t4:=underlying4
 a4:=Tryz.isAgg4
 z4:=Tryz.sizeOf4
 v4:=Tryz.zeroValue4
 t5:=underlying5
 a5:=Tryz.isAgg5
 z5:=Tryz.sizeOf5
 v5:=Tryz.zeroValue5
 t9:=underlying9
 a9:=Tryz.isAgg9
 z9:=Tryz.sizeOf9
 v9:=Tryz.zeroValue9
 t46:=underlying294
 a46:=Tryz.isAgg294
 z46:=Tryz.sizeOf294
 v46:=Tryz.zeroValue294
 t51:=underlying293
 a51:=Tryz.isAgg293
 z51:=Tryz.sizeOf293
 v51:=Tryz.zeroValue293
 t146:=underlying746
 a146:=Tryz.isAgg746
 z146:=Tryz.sizeOf746
 v146:=Tryz.zeroValue746
 g1:=by kernel_rfl }
open Go.RowKit Go.Lib in
def Tryz.strings_Index(s sub:ByteArray)(m:Int)(w:uC)(hs:s.size<4294967281)(hm:w.cell? ⟨0,0,none⟩=some (.int .i64 m)):
  Calls prog 247 #[.string s,.string sub] w λe w'=>e=.returned (.int .i64 (Lib.index s.data.toList sub.data.toList))/\w'=w:=Any.strings_Index Tryz.lays143 s sub m w hs hm
def Tryz.NW:Go.Shelf.Ren:=⟨fun|146=>192|221=>305|268=>448|138=>449|143=>247|195=>566|197=>558|218=>567|219=>299|260=>651|217=>433|225=>434|224=>435|267=>436|266=>555|314=>556|n=>n,fun|9=>9|31=>216|3=>3|4=>4|0=>0|105=>748|21=>21|5=>5|46=>294|119=>894|139=>897|138=>896|146=>746|51=>293|n=>n,fun|1=>0|3=>5|4=>6|n=>n⟩
def Tryz.lays146:Go.Proofs.Lays.n146 prog Tryz.NW:={
 mixed:=by kernel_rfl
 f138:=func449.trans (zaq some (by kernel_rfl))
 f143:=func247.trans (zaq some (by kernel_rfl))
 f146:=func192.trans (zaq some (by kernel_rfl))
 f195:=func566.trans (zaq some (by kernel_rfl))
 f197:=func558.trans (zaq some (by kernel_rfl))
 f217:=func433.trans (zaq some (by kernel_rfl))
 f218:=func567.trans (zaq some (by kernel_rfl))
 f219:=func299.trans (zaq some (by kernel_rfl))
 f221:=func305.trans (zaq some (by kernel_rfl))
 f224:=func435.trans (zaq some (by kernel_rfl))
 f225:=func434.trans (zaq some (by kernel_rfl))
 f260:=func651.trans (zaq some (by kernel_rfl))
 f266:=func555.trans (zaq some (by kernel_rfl))
 f267:=func436.trans (zaq some (by kernel_rfl))
 f268:=func448.trans (zaq some (by kernel_rfl))
 f314:=func556.trans (zaq some (by kernel_rfl))
 t0:=underlying0
 a0:=Tryz.isAgg0
 z0:=Tryz.sizeOf0
 v0:=Tryz.zeroValue0
 t3:=underlying3
 a3:=Tryz.isAgg3
 z3:=Tryz.sizeOf3
 v3:=Tryz.zeroValue3
 t4:=underlying4
 a4:=Tryz.isAgg4
 z4:=Tryz.sizeOf4
 v4:=Tryz.zeroValue4
 t5:=underlying5
 a5:=Tryz.isAgg5
 z5:=Tryz.sizeOf5
 v5:=Tryz.zeroValue5
 t9:=underlying9
 a9:=Tryz.isAgg9
 z9:=Tryz.sizeOf9
 v9:=Tryz.zeroValue9
 t21:=underlying21
 a21:=Tryz.isAgg21
 z21:=Tryz.sizeOf21
 v21:=Tryz.zeroValue21
 t31:=underlying216
 a31:=Tryz.isAgg216
 z31:=Tryz.sizeOf216
 v31:=Tryz.zeroValue216
 t46:=underlying294
 a46:=Tryz.isAgg294
 z46:=Tryz.sizeOf294
 v46:=Tryz.zeroValue294
 t51:=underlying293
 a51:=Tryz.isAgg293
 z51:=Tryz.sizeOf293
 v51:=Tryz.zeroValue293
 t105:=underlying748
 a105:=Tryz.isAgg748
 z105:=Tryz.sizeOf748
 v105:=Tryz.zeroValue748
 t119:=underlying894
 a119:=Tryz.isAgg894
 z119:=Tryz.sizeOf894
 t138:=underlying896
 a138:=Tryz.isAgg896
 z138:=Tryz.sizeOf896
 v138:=Tryz.zeroValue896
 t139:=underlying897
 a139:=Tryz.isAgg897
 z139:=Tryz.sizeOf897
 v139:=Tryz.zeroValue897
 t146:=underlying746
 a146:=Tryz.isAgg746
 z146:=Tryz.sizeOf746
 v146:=Tryz.zeroValue746
 g1:=by kernel_rfl
 g3:=by kernel_rfl
 g4:=by kernel_rfl }
open Go.RowKit Go.Lib in
def Tryz.strings_Split(s sep:ByteArray)(m:Int)(w:uC)(hs:s.size<4294967281)(hm:w.cell? ⟨0,0,none⟩=some (.int .i64 m))(h1:1<=sep.size):
  Calls prog 192 #[.string s,.string sep] w λe w' =>
   e=.returned (.slice (some ⟨w.heap.size,0,none⟩) (Lib.countB s sep+1) (Lib.countB s sep+1))/\w'=w.alloc (.cells ((Lib.splitB sep 0 (Lib.countB s sep) s).map Value.string).toArray 9):=Any.strings_Split Tryz.lays146 (by kernel_rfl) s sep m w hs hm h1
end Go.Proofs.YtleflofddacmdaaGreatDoor
namespace Go.Abs
open Go.RowKit
def zF.one{lim w d vs}(h:zF lim w [d] vs):∃v,vs=#[v]/\cq lim w d v:=by
 obtain⟨h1,h2⟩:=h
 match vs,h1 with
 | ⟨[v]⟩,_=>exact⟨v,rfl,h2 0 d v rfl rfl⟩
def zF.two{lim w d e vs}(h:zF lim w [d,e] vs):∃v u,vs=#[v,u]/\cq lim w d v/\cq lim w e u:=by
 obtain⟨h1,h2⟩:=h
 match vs,h1 with
 | ⟨[v,u]⟩,_=>exact⟨v,u,rfl,h2 0 d v rfl rfl,h2 1 e u rfl rfl⟩
def Hc w k(os):Below w.heap.size w (Go.Sort.grow (w.drewN k) os):=
 ⟨rfl,rfl,rfl,by simp_all,λb h=>by
  show((w.drewN k).heap++os)[b]?=_;rw[zdp (show b<(w.drewN k).heap.size from h)];rfl⟩
def aR.lib{P f args u}
  (h:∀lim w vs,jz w.heap.size w->zF lim w args vs->Calls P f vs w λe w'=>e=.returned u/\Below w.heap.size w w'):aR P f args (·=.ex u):=by
 intro lim w vs a ha;refine(h lim w vs a ha).mono ?_;rintro e w' ⟨rfl,H⟩;exact⟨u,.ex u,lim,rfl,rfl,.ex u,⟨H.size,λ_ _=>zag _,λb off i _=>H.cell (p:=⟨b,off,none⟩) i⟩,H,λ_ _=>rfl⟩
def QC{lim w xs v}(h:cq lim w (.sl 1 (xs.map rS)) v):
  (∃A c,v=.slice A 0 c/\xs=[])∨∃b off c,v=.slice (some ⟨b,off,none⟩) xs.length c/\xs.length<=c/\b<w.heap.size/\∀j x,xs[j]?=some x->w.cell? ⟨b,off+j,none⟩=some (.string ⟨x.toArray⟩):=by
 generalize a:xs.map rS=rows at h;cases h with
 | nil _ A =>
  have:xs=[]:=by simp_all
  simp_all
 | sl _ _ b off c d g hx e =>
  subst a;rw[zcb]at *;by_cases h0:xs=[]
  .simp_all
  .refine .inr ⟨b,off,c,rfl,d,?_,λj x H=>?_⟩
   .have hl:0<xs.length:=zcn.2 h0;obtain⟨_,u,hu,_⟩:=hx 0 (by omega);exact World.block_lt_of_cell? w _ hu
   .have P:=(zad.1 H).1;obtain⟨_,u,hu,_⟩:=hx j (by omega);have:=e j 0 (rS x) (.ex (.string ⟨x.toArray⟩)) u (by rw[zau,H];rfl) rfl (by rw[Nat.mul_one,zct];exact hu);rw[hu,kC this]
end Go.Abs
namespace Go.Proofs.YtleflofddacmdaaGreatDoor
open Go.RowKit Go.Abs Go.Lib Go.Sort Go.Shelf Go.Proofs.Tryz
def zZ(l:List ai)(i:Int):ai:=match l.find? λr=>decide (r.index=i)with
 | some r=>r
 | none=>⟨0,0,i,0⟩
def EZ l(i):(zZ l i).index=i:=by
 unfold zZ;split
 .rename_i r h;simpa using List.find?_some h
 .rfl
def JV:∀{l},(l.map (·.index)).Nodup->∀{r},r∈l->zZ l r.index=r
 | x::l,hn,r,h=>by
  rw[zbb,zbz]at hn;unfold zZ;rcases zao.1 h with rfl|h
  .rw[List.find?_cons_of_pos (by simp)]
  .rw[List.find?_cons_of_neg (by
    simp;intro H;exact hn.1 (by rw[H];exact zen h))]
   have:=JV hn.2 h;unfold zZ at this;exact this
def zn(l:LQ ai)(i:Int):= ai.gn (zZ l i)
theorem Hd l(i):(zn l i).length=4:=rfl
def XN l(i):∀v∈zn l i,v.oneCell'=true:=by
 intro v hv;simp only[zn,ai.gn,zao,zem,or_false]at hv;rcases hv with rfl|rfl|rfl|rfl<;>rfl
def ltI(x y):ltOf (λx y:Int=>Lib.compareInt x y) x y=decide (x<y):=by
 unfold ltOf Lib.compareInt;by_cases h1:x<y
 .simp[h1]
 .by_cases h2:y<x<;>simp[h1,h2]
def swoI:SWO (ltOf λx y:Int=>Lib.compareInt x y) where
 irrefl x:=by rw[ltI];simp
 trans x y z h1 h2:=by rw[ltI]at *;simp at *;omega
 ntrans x y z h1 h2:=by rw[ltI]at *;simp at *;omega
def XO(x y)(W):Calls prog 63 #[.agg (ai.gn x).toArray,.agg (ai.gn y).toArray] W λe w'=>e=.returned (.int .i64 (Lib.compareInt x.index y.index))/\∃q o,w'=grow (W.drewN q) o:=by
 have U:=λh=>Tryz.cmp_Compare_int x.index y.index h
 unfold ai.gn;generalize Lib.compareInt x.index y.index=r at U ⊢;go_enter func63,ntmps63
 go_wp2_with (go_at_call 64;refine(U _).mono ?_;rintro e w' ⟨rfl,rfl⟩)
 go_ret;exact⟨rfl,0,_,by rw[alloc_eq_grow,alloc_eq_grow,grow_grow];rfl⟩
def XP l(b off size)(w):CmpLays prog 63 #[] (zn l) 4 (λx y=>Lib.compareInt x y) b off size w:=λ_ _ _ _ x y=>by
 have:=XO (zZ l x) (zZ l y);rw[EZ,EZ]at this;exact this _
def ig(f:Int->LQ uB)(H:∀i,(f i).length=4):∀(is:LQ Int) t,t<is.length*4->(is.flatMap f)[t]?=some (f is[t / 4]!)[t % 4]!
 | [],t,h=>by simp at h
 | a::is,t,h=>by
  rw[zej];by_cases ht:t<4
  .have h4:=H a;rw[zaj (by omega),show t / 4=0 from by omega,show t % 4=t from by omega];rw[zaf (by omega),zfa (f (a::is)[0]!) t (by rw[H];omega)];rfl
  .rw[zan (by rw[H];omega),H,ig f H is (t-4) (by simp only[zap]at h;omega),show t / 4=(t-4) / 4+1 from by omega,show t % 4=(t-4) % 4 from by omega];have b:(t-4) / 4<is.length:=by simp only[zap]at h;omega
   rw[zfa is _ b,zfa (a::is) _ (by simp only[zap];omega)];rfl
def He l(is:LQ Int):(flatK (zn l) 4 is.toArray).toList=is.flatMap (zn l):=by
 have hl:(is.flatMap (zn l)).length=is.length*4:=by
  induction is with
  | nil=>rfl
  | cons a is i=>rw[zej,zar,i,Hd,zap];omega
 apply zbv;intro t;by_cases ht:t<is.length*4
 .rw[ig _ (Hd l) is t ht,zcf,zbl (by simpa using ht)];have:=get_flatK (zn l) 4 is.toArray t (by simpa using ht);rw[zfa _ _ (by simpa using ht)]at this;rw[this];have b:t / 4<is.length:=by omega
  rw[zfa is.toArray _ (by simpa using b),zfa is _ b];simp
 .rw[zbu (by rw[zbx,size_flatK];simpa using ht),zbu (by rw[hl];omega)]
def om(l:LQ ai):= l.flatMap ai.gn
def yT:∀l,(om l).length=l.length*4
 | []=>rfl
 | r::l=>by
  have:=yT l;unfold om at this ⊢;rw[zej,zar,this];simp only[ai.gn,zap,zdu];omega
def D6:∀l,(l.map ai.row).flatten=(om l).map D.ex
 | []=>rfl
 | r::l=>by
  have:=D6 l;unfold om at this ⊢;rw[zbb,zfo,this,zej,zcd];rfl
def Hg{l ls}(h:∀r,r∈ls->zZ l r.index=r):(ls.map (·.index)).flatMap (zn l)=om ls:=by
 unfold om
 induction ls with
 | nil=>rfl
 | cons r ls i =>
  rw[zbb,zej,zej,i (λx hx=>h x (zak _ hx))];unfold zn;rw[h r (zal ..)]
def QF{lim w}(l):bY lim w 4 l.length (l.map ai.row) (om l):=by
 refine⟨by simp,λr a=>?_,λi c u h H=>?_⟩
 .obtain⟨x,_,rfl⟩:=zck.1 a;rfl
 .rw[D6,zau,H]at h;cases h;refine⟨.ex u,?_⟩;have hm:=zav H;unfold om at hm;obtain⟨r,_,hv⟩:=List.mem_flatMap.1 hm;simp only[ai.gn,zao,zem,or_false]at hv;rcases hv with rfl|rfl|rfl|rfl<;>rfl
def QG{lim w l n xs}(h:bY lim w 4 n (l.map ai.row) xs)(hx:xs.length=n*4):xs=om l:=by
 have hn:n=l.length:=by have:=h.len;simpa using this.symm
 apply zbv;intro i;by_cases hi:i<xs.length
 .have H:i<(om l).length:=by rw[yT];omega
  have:=(h.rep i (.ex (om l)[i]) xs[i] (by rw[D6,zau,zaf H];rfl) (zaf hi)).1;rw[zaf hi,zaf H,kC this]
 .rw[zbu (by omega),zbu (by rw[yT];omega)]
def XQ{w g n cur e fr} d(h:w.heap[g]?=some (.cells cur e fr)):(putRow id (Sort.ahead w n) g 0 d).heap[g]?=some (.cells (Go.Sort.putCells id 0 d cur) e fr):=by
 simp[putRow,mapBlock,Sort.ahead,Array.getElem?_modify,h,onCells]
def UT{w:uC}{g n}(d):w.grownBy (putRow id (Sort.ahead w n) g 0 d) (some g):=by
 refine⟨rfl,rfl,rfl,by simp,λk hk h=>?_⟩;have:g≠k:=λe=>h (by rw[e])
 simp[putRow,mapBlock,Sort.ahead,Array.getElem?_modify,this]
def XR cur ts(h:ts.length<=cur.size):(Go.Sort.putCells id 0 ts.toArray cur).toList.take ts.length=ts:=by
 apply zbv;intro j;by_cases H:j<ts.length
 .rw[List.getElem?_take_of_lt H,zcf];simp[Go.Sort.putCells,H,show j<cur.size by omega]
 .rw[List.getElem?_take_eq_none (by omega),zbu (by omega)]
def D7(x):∀l,(Fh x l).Perm (x::l)
 | []=>.refl _
 | y::l=>by
  unfold Fh;split
  .exact .refl _
  .exact((D7 x l).cons y).trans (.swap _ _ _)
def AJ:∀l,(JQ l).Perm l
 | []=>.refl _
 | x::l=>(D7 x _).trans ((AJ l).cons x)
def NX(x):∀{l},l.Pairwise (λa b=>a.index<=b.index)->(Fh x l).Pairwise λa b=>a.index<=b.index
 | [],_=>by simp[Fh]
 | y::l,h=>by
  have h2:=zat.1 h;unfold Fh;split
  .rename_i hx;refine zat.2 ⟨λz H=>?_,h⟩;rcases zao.1 H with rfl|H
   .exact hx
   .have:=h2.1 z H;omega
  .rename_i hx;refine zat.2 ⟨λz H=>?_,NX x h2.2⟩;rcases zao.1 ((D7 x l).mem_iff.1 H)with rfl|H
   .omega
   .exact h2.1 z H
def JW:∀l,(JQ l).Pairwise λa b=>a.index<=b.index
 | []=>.nil
 | x::l=>NX x (JW l)
def JX:∀{l l':LQ Int},l.Pairwise (·<=·)->l'.Pairwise (·<=·)->l.Perm l'->l=l'
 | [],l',_,_,p=>p.nil_eq
 | a::l,[],_,_,p=>absurd p.length_eq (by simp)
 | a::l,b::l',h,h',p=>by
  have h1:=zat.1 h;have h2:=zat.1 h';have c:a=b:=by
   have H:b∈a::l:=p.mem_iff.2 (zal ..);have ha:a∈b::l':=p.mem_iff.1 (zal ..);rcases zao.1 H with e|H
   .exact e.symm
   .rcases zao.1 ha with e|ha
    .exact e
    .have:=h1.1 b H;have:=h2.1 a ha;omega
  subst c;rw[JX h1.2 h2.2 ((List.perm_cons a).1 p)]
def Hh{l m r}(H:ru l=some r):
  bg prog 62 [.vc 0 m,.d (.ex (.func (.func 63) #[] #[]))] ⟨[],[⟨195,4,m,some (l.map ai.row)⟩]⟩
   (QE (.d (.dp [])) ⟨[],[⟨195,4,m,some (r.map ai.row)⟩]⟩):=by
 obtain⟨hk,H⟩:=iS H;injection H with B;intro g w base vs f ha;obtain⟨x,y,rfl,I,M⟩:∃x y,vs=#[x,y]/\aY g w _ (.vc 0 m) x/\aY g w _ (.d (.ex (.func (.func 63) #[] #[]))) y:=by
  obtain⟨h1,h2⟩:=ha;obtain⟨q⟩:=vs
  match q,h1 with
  | [x,y],_=>exact⟨x,y,rfl,h2 0 _ _ rfl rfl,h2 1 _ _ rfl rfl⟩
 have P:y=.func (.func 63) #[] #[]:=M.aO;subst P;obtain⟨xs,s1,s2,s3⟩:=f.own 0 _ _ _ _ rfl;have J:m=l.length:=by have:=s3.len;simpa using this.symm
 by_cases o:l=[]
 .subst o;have W:r=[]:=by rw[←B];rfl
  subst W;have hx:∃A c,x=.slice A 0 c:=by
   rcases qu f rfl I with h|⟨_,_,A,h⟩
   .obtain⟨A,c,hv⟩:=(fY s1).1;exact⟨A,c,by rw[h,hv,J];rfl⟩
   .exact⟨A,0,h⟩
  obtain⟨A,c,rfl⟩:=hx;refine(AnyF.slices_SortFunc_none Tryz.NQ A c (.func (.func 63) #[] #[]) w).mono ?_;rintro e w' ⟨rfl,rfl⟩;exact⟨_,_,_,g,rfl,⟨.aW _,rfl⟩,.d _ _ (.dp _ _ rfl (λi c u hi C=>by simp at C)),f,rk.refl _⟩
 .have hx:x=g.tk 0:=by
   rcases qu f rfl I with h|⟨_,h,_⟩
   .exact h
   .exact absurd (by simpa using h) o
  subst hx;have N:0<l.length:=zcn.2 o;obtain⟨b,c,hv⟩:=(fY s1).2 (by omega);have O:=QG s3 s1.1;have s:=s1;rw[hv]at s;rcases s.2 with⟨h,_⟩|⟨b',c',cur,h,Q,D,R,S,K,EG⟩
  .cases h
  cases h;have t:∀q,q∈l->zZ l q.index=q:=λq E=>JV hk.2 E
  have k:(flatK (zn l) 4 (l.map (·.index)).toArray).toList=om l:=by rw[He,Hg t]
  have L:(l.map (·.index)).toArray.size=m:=by simp[J]
  have T:HoldsK (zn l) 4 w b 0 (l.map (·.index)).toArray:=by
   intro j F;have tU:j<(om l).length:=by rw[←k,zbx];exact F
   refine⟨?_,by simp[World.frozen?,D]⟩;have h1:xs[j]?=some ((flatK (zn l) 4 (l.map (·.index)).toArray)[j]!):=by
    rw[O,←k,zcf,zfa (flatK (zn l) 4 (l.map (·.index)).toArray) j F,zbl F]
   have:=s1.cells (g:=b) (by rw[hv];rfl) j _ h1;simp only[Addr.add_lit,zbh]at this ⊢;exact this
  have eg:∀args w,(callFunc 63 args).run prog w=.ok (.enter 63 args) w:=enters_of func63 (by kernel_rfl) rfl;have U:=AnyQ.slices_SortFunc_total Tryz.NQ 4 Tryz.isAgg195 Tryz.sizeOf195 (zn l) (Hd l) (XN l) (λx y:Int=>Lib.compareInt x y) swoI 63 #[] b 0 c (l.map (·.index)).toArray w eg (XP l b 0 _ w) T (zbe.1 D).1 (by rw[L];omega)
   (λx y h1 h2=>by rw[ltI]at h1 h2;simp at h1 h2;omega)
  change Calls prog 62 _ _ _ at U;rw[L,←hv]at U;refine U.mono ?_;rintro e w' ⟨rfl,n,os,rfl⟩;have G:((l.map (·.index)).toArray.toList.mergeSort λx y=>!(ltOf (λx y:Int=>Lib.compareInt x y)) y x)=r.map (·.index):=by
   refine JX ?_ ?_ ?_
   .have:=List.pairwise_mergeSort (le:=λx y:Int=>!(ltOf (λx y:Int=>Lib.compareInt x y)) y x) (λa b c h1 h2=>by simp only[ltI,zdy,zdn]at *;omega) (λa b=>by simp only[ltI,zcj,zdy,zdn];omega) (l.map (·.index)).toArray.toList
    refine this.imp (λh=>?_);rw[ltI]at h;simpa using h
   .rw[←B];exact List.pairwise_map.2 (JW l)
   .refine(List.mergeSort_perm _ _).trans ?_;rw[←B];exact((AJ l).map _).symm
  rw[G];have v:r.Perm l:=by rw[←B];exact AJ l
  have z:r.length=l.length:=v.length_eq;have hfl2:flatK (zn l) 4 (r.map (·.index)).toArray=(om r).toArray:=by
   apply Array.toList_inj.1;rw[He,Hg (λq E=>t q (v.mem_iff.1 E))]
  unfold sortWorldK putRowK;rw[hfl2];have p:(om r).length=m*4:=by rw[yT,z,J]
  have V:(om r).length<=cur.size:=by rw[p,K];omega
  have X:(putRow id (Sort.ahead w n) b 0 (om r).toArray).ownsRow base 195 4 (g.tk 0) m (om r):=by
   rw[hv];refine⟨p,.inr ⟨b,c,_,rfl,Q,XQ _ D,R,S,by simp[Go.Sort.putCells,K],?_⟩⟩;rw[←p];exact XR cur _ V
  have Y:bY g.lim w 4 m (r.map ai.row) (om r):=by
   have:=QF (lim:=g.lim) (w:=w) r
   rwa [z,←J]at this
  obtain⟨g',t1,t2,Z,t4⟩:=f.xn (tk:=0) (x':=⟨195,4,m,some (r.map ai.row)⟩) rfl X (.inl ⟨rfl,by simp[Sort.ahead],by rw[hv];exact UT _⟩)
   (λh=>by cases h) (λ_ _ _ _=>⟨rfl,zag _,λ_=>rfl⟩) (λaT h=>by cases h;exact Y)
  obtain⟨i1,i2⟩:=Z.grow (g':=g') (Hc (putRow id (Sort.ahead w n) b 0 (om r).toArray) 0 os) (λ_ _=>rfl) rfl rfl;exact⟨_,_,_,g',rfl,⟨.aW _,rfl⟩,.d _ _ (.dp _ _ rfl (λi c u hi C=>by simp at C)),i1,((rk.refl _).step t4).step i2⟩
end Go.Proofs.YtleflofddacmdaaGreatDoor
namespace Go.CI
open Go.Abs
inductive Tr (α:Type) where
 | e
 | n (l:Tr α) (x:Option α) (r:Tr α)
def Tr.get{α}(t:Tr α):Nat->LX α:=
 Tr.rec (λ_=>none) (λ_ x _ g h i=>Nat.rec x (λj _=>Nat.rec (g (Nat.div j 2)) (λ_ _=>h (Nat.div j 2)) (Nat.mod j 2)) i) t
inductive X (α:Type) where
 | v (a:α)
 | e (n:Nat) (o:Option Oper)
def Tr.set{α β}(f:Nat):Tr α->Nat->α->(Tr α->X β)->X β:=
 Nat.rec (λ_ _ _ _=>.e 1 none) (λ_ h t i a k =>
  Tr.rec (motive:=λ_=>X β)
   (Nat.rec (k (.n .e (some a) .e)) (λj _=>Nat.rec (h .e (Nat.div j 2) a λl=>k (.n l none .e)) (λ_ _=>h .e (Nat.div j 2) a λr=>k (.n .e none r)) (Nat.mod j 2)) i)
   (λl x r _ _=>Nat.rec (k (.n l (some a) r)) (λj _=>Nat.rec (h l (Nat.div j 2) a λl=>k (.n l x r)) (λ_ _=>h r (Nat.div j 2) a λr=>k (.n l x r)) (Nat.mod j 2)) i) t) f
inductive V where
 | c (v:uB)
 | s (l:List Nat)
 | p (o off:Nat)
 | l (o off n:Nat) (k:Option Nat)
 | z
 | m (o:Nat)
 | f (g:Nat) (cs:List V)
 | y (o:Nat)
 | a (cs:List V)
 | t (cs:List V)
inductive Ob where
 | c (ty sz:Nat) (cs:List V)
 | k (cs:List V)
 | m (es:List (V×Nat×V)) (ck:Nat)
 | i (s:List Nat) (pos:Nat)
 | r (b:Bool) (fn n:Nat) (env:Tr V) (ps:List Nat) (a b:Code)
 | d
 | g
def undef:V:=.t []
def fN{β:Type}(n:Nat)(k:Nat->β):β:=Nat.rec (k 0) (λm _=>k (Nat.succ m)) n
def fI{β}(n:Int)(k:Int->β):β:=Int.rec (λn=>fN n λn=>k (.ofNat n)) (λn=>fN n λn=>k (.negSucc n)) n
def fB{β:Type}(b:Bool)(k:Bool->β):β:=Bool.rec (k false) (k true) b
def fC{β}(v:uB)(k:uB->β):= match v with
 | .int j n=>fI n λn=>k (.int j n)
 | .bool b=>fB b λb=>k (.bool b)
 | v=>k v
def nth{α:Type}(l:LQ α):Nat->LX α:=
 List.rec (λ_=>none) (λa _ h i=>Nat.rec (some a) (λj _=>h j) i) l
def SJ{α β:Type}(n:Nat):LQ α->(LQ α->β)->β:=
 Nat.rec (λ_ k=>k []) (λ_ i l k=>List.rec (k []) (λa l _=>i l λl=>k (a::l)) l) n
def NY{α β:Type}(n:Nat):LQ α->(LQ α->β)->β:=
 Nat.rec (λl k=>k l) (λ_ i l k=>List.rec (k []) (λ_ l _=>i l k) l) n
def UU{α β:Type}(l m:LQ α):(LQ α->β)->β:=
 List.rec (λk=>k m) (λa _ i k=>i λl=>k (a::l)) l
def XS{α γ β:Type}(g:α->(γ->β)->β)(l:LQ α):(LQ γ->β)->β:=
 List.rec (λk=>k []) (λa _ i k=>g a λa=>i λl=>k (a::l)) l
def repK{α β}(z:LQ α)(n:Nat):(LQ α->β)->β:=
 Nat.rec (λk=>k []) (λ_ i k=>i λl=>UU z l k) n
def lenK{α β:Type}(l:LQ α):Nat->(Nat->β)->β:=
 List.rec (λn k=>k n) (λ_ _ i n k=>i (Nat.succ n) k) l
def K2{α β}(new:LQ α)(n:Nat):LQ α->(LQ α->β)->β:=
 Nat.rec (λl k=>NY new.length l λl=>UU new l k) (λ_ i l k=>List.rec (k []) (λa l _=>i l λl=>k (a::l)) l) n
def cI(n:Int):V:=.c (.int .i64 n)
def cB(b:Bool):V:=.c (.bool b)
def ofVs:List uB->List V
 | []=>[]
 | .string s::l=>.s (s.data.toList.map UInt8.toNat)::ofVs l
 | v::l=>.c v::ofVs l
def ones:List uB->Bool
 | []=>true
 | v::l=>match v.oneCell' with
  | true=>ones l
  | false=>false
def ofV:uB->V
 | .string s=>.s (s.data.toList.map UInt8.toNat)
 | .agg ⟨cs⟩=>match ones cs with
  | true=>.a (ofVs cs)
  | false=>.c (.agg ⟨cs⟩)
 | .func (.func f) ⟨[]⟩ ⟨[]⟩=>.f f []
 | v=>.c v
mutual
def fV{β:Type}:V->(V->β)->β
 | .c v,k=>fC v λv=>k (.c v)
 | .s l,k=>XS (λn k=>fN n k) l λl=>k (.s l)
 | .a cs,k=>fVs cs λcs=>k (.a cs)
 | v,k=>k v
def fVs{β:Type}:List V->(List V->β)->β
 | [],k=>k []
 | v::l,k=>fV v λv=>fVs l λl=>k (v::l)
end
def cells:V->Option (List V)
 | .a cs=>some cs
 | .t _=>none
 | .c v=>match v.oneCell' with
  | true=>some [.c v]
  | false=>none
 | v=>some [v]
inductive TK where
 | bool|int (k:IntKind)|str|sl (e:Nat)|ar (n e:Nat)|mp (k e:Nat)|st (fs:List (Nat×Nat×Nat))|pt|fn|ot
structure TI where
 k:TK
 sz:Nat
 z:V
 ez:Nat
 ev:V
 eg:Nat
 g:Nat
 fk:LX (LQ FK)
 fq:LX (LQ FK)
 eb:Nat
 pe:Nat
def QH(P:uG)(t:Nat):Nat:=match P.underlying t with
 | some (.struct _)=>1
 | some (.array _ _)=>1
 | _=>0
def lD(P:uG):TypeDesc->TK
 | .bool=>.bool
 | .int k=>.int k
 | .string=>.str
 | .slice e=>match(P.info? e).isSome && (P.underlying e).isSome with
  | true=>.sl e
  | false=>.ot
 | .array n e=>match(P.info? e).isSome && (P.underlying e).isSome with
  | true=>.ar n e
  | false=>.ot
 | .map k e=>match(P.info? e).isSome && (P.underlying e).isSome with
  | true=>.mp k e
  | false=>.ot
 | .pointer _=>.pt
 | .func _ _ _=>.fn
 | .struct h=>match h.toList.all λf=>(P.info? f.type).isSome && (P.underlying f.type).isSome with
  | true=>.st (h.toList.map λf=>(f.offset,QH P f.type,rn P f.type))
  | false=>.ot
 | _=>.ot
def QI(P:uG)(t:Nat):V:=match P.info? t with
 | some i=>match i.zero with
  | some z=>match Nat.beq z.cells.size i.size with
   | true=>ofV z
   | false=>undef
  | none=>undef
 | none=>undef
def FJ:TypeDesc->Nat
 | .slice e=>e
 | .array _ e=>e
 | .map _ e=>e
 | _=>0
def ptT:TypeDesc->Nat
 | .pointer e=>e
 | _=>0
def LA(P:uG)(t:Nat):Nat:=match P.info? t with
 | some i=>i.bytes
 | none=>0
def XT(P:uG)(t:Nat):Option TI:=match P.info? t,P.underlying t with
 | some i,some d=>some ⟨lD P d,i.size,QI P t,rn P (FJ d),QI P (FJ d),QH P (FJ d),QH P t,BO P t,jd P t,LA P (FJ d),ptT d⟩
 | _,_=>none
def agg:TK->Bool
 | .st _=>true
 | .ar _ _=>true
 | _=>false
def toN:V->Option Nat
 | .c (.int _ (.ofNat n))=>some n
 | _=>none
def LB:Option V->Nat->Option Nat
 | none,d=>some d
 | some v,_=>toN v
def no{β}(n:Nat):X β:=.e n none
section ops
variable {β:Type}(T:Tr TI)(env:Tr V)(h:Tr Ob)
def ev:uH->Option V
 | .tmp t=>env.get t
 | .const v=>some (ofV v)
 | .global _=>none
 | .func f=>some (.f f [])
def lE(x:uH)(k:V->X β):X β:=match x with
 | .tmp t=>Option.rec (no 19) (λv=>k v) (env.get t)
 | .const v=>fV (ofV v) k
 | .global _=>no 18
 | .func f=>k (.f f [])
def bZ:List uH->(List V->X β)->X β
 | [],k=>k []
 | x::l,k=>lE env x λv=>bZ l λl=>k (v::l)
def ci(j:IntKind)(n:Int)(k:V->X β):= fI n λn=>k (.c (.int j n))
def cb(b:Bool)(k:V->X β):= fB b λb=>k (.c (.bool b))
def UW(op:BinOp)(j:IntKind)(a b:Int)(k:V->X β):= match op with
 | .add=>ci j (j.wrap (a+b)) k
 | .sub=>ci j (j.wrap (a-b)) k
 | .mul=>ci j (j.wrap (a*b)) k
 | .quo=>match decide (b=0)with
  | true=>no 20
  | false=>ci j (j.wrap (a.tdiv b)) k
 | .rem=>match decide (b=0)with
  | true=>no 21
  | false=>ci j (a.tmod b) k
 | .lss=>cb (decide (a<b)) k
 | .leq=>cb (decide (a<=b)) k
 | .gtr=>cb (decide (a > b)) k
 | .geq=>cb (decide (a>=b)) k
 | .eql=>cb (decide (a=b)) k
 | .neq=>cb (!decide (a=b)) k
 | .and=>ci j (j.wrap (BitVec.ofInt j.bits a &&& BitVec.ofInt j.bits b).toNat) k
 | .or=>ci j (j.wrap (BitVec.ofInt j.bits a ||| BitVec.ofInt j.bits b).toNat) k
 | .xor=>ci j (j.wrap (BitVec.ofInt j.bits a ^^^ BitVec.ofInt j.bits b).toNat) k
 | .andNot=>ci j (j.wrap (BitVec.ofInt j.bits a &&& ~~~ BitVec.ofInt j.bits b).toNat) k
 | .shl=>match decide (b<0)with
  | true=>no 22
  | false=>ci j (j.wrap (a*2 ^ min b.toNat j.bits)) k
 | .shr=>match decide (b<0)with
  | true=>no 23
  | false=>ci j (a.fdiv (2 ^ min b.toNat j.bits)) k
def XU:List Nat->List Nat->Bool
 | [],[]=>true
 | a::l,b::m=>match Nat.beq a b with
  | true=>XU l m
  | false=>false
 | _,_=>false
def ltL:List Nat->List Nat->Bool
 | _,[]=>false
 | [],_::_=>true
 | a::l,b::m=>match Nat.ble (a+1) b with
  | true=>true
  | false=>match Nat.beq a b with
   | true=>ltL l m
   | false=>false
def binS(op:BinOp)(a b:List Nat)(k:V->X β):= match op with
 | .add=>match Nat.ble (a.length+b.length) 9223372036854775807 with
  | true=>UU a b λl=>k (.s l)
  | false=>no 9
 | .eql=>cb (XU a b) k
 | .neq=>cb (!XU a b) k
 | .lss=>cb (ltL a b) k
 | .leq=>cb (ltL a b || XU a b) k
 | .gtr=>cb (!(ltL a b || XU a b)) k
 | .geq=>cb (!ltL a b) k
 | _=>no 24
def eqC:uB->uB->Option Bool
 | .bool a,.bool b=>some (a==b)
 | .int j a,.int k b=>match decide (j=k)with
  | true=>some (decide (a=b))
  | false=>none
 | _,_=>none
def eq1:V->V->Option Bool
 | .c a,.c b=>eqC a b
 | .s a,.s b=>some (XU a b)
 | _,_=>none
def eqs:List V->List V->Option Bool
 | [],[]=>some true
 | a::l,b::m=>match eq1 a b with
  | some true=>eqs l m
  | r=>r
 | _,_=>none
def Cb(t:TK)(x:V):= match t with
 | .pt=>match x with
  | .c (.pointer none)=>some true
  | .p _ _=>some false
  | _=>none
 | .sl _=>match x with
  | .c (.slice none _ _)=>some true
  | .l _ _ _ _=>some false
  | .z=>some false
  | _=>none
 | .mp _ _=>match x with
  | .c (.map none)=>some true
  | .m _=>some false
  | _=>none
 | .fn=>match x with
  | .c .nilFunc=>some true
  | .f _ _=>some false
  | .y _=>some false
  | _=>none
 | _=>none
def fit1:FK->V->Bool
 | .i k,.c (.int k' _)=>decide (k=k')
 | .b,.c (.bool _)=>true
 | .s,.s _=>true
 | _,_=>false
def fits:List FK->List V->Bool
 | [],[]=>true
 | k::ks,v::vs=>match fit1 k v with
  | true=>fits ks vs
  | false=>false
 | _,_=>false
def eqA(t:Nat)(xs ys:List V):Option Bool:=match T.get t with
 | some i=>match i.fk with
  | some ks=>match fits ks xs with
   | true=>match fits ks ys with
    | true=>eqs xs ys
    | false=>none
   | false=>none
  | none=>none
 | none=>none
def E0(op:BinOp)(b:Bool)(k:V->X β):= match op with
 | .eql=>cb b k
 | .neq=>cb (!b) k
 | _=>no 27
def bNil(op:BinOp)(t:Nat)(x y:V)(k:V->X β):X β:=match T.get t with
 | some i=>match Cb i.k x with
  | some a=>match Cb i.k y with
   | some b=>match a with
    | true=>E0 op b k
    | false=>match b with
     | true=>E0 op false k
     | false=>no 14
   | none=>no 15
  | none=>no 16
 | none=>no 8
def bin(op:BinOp)(t:Nat)(x y:V)(k:V->X β):= match x with
 | .c (.int j a)=>match y with
  | .c (.int h b)=>match decide (j=h)with
   | true=>UW op j a b k
   | false=>match op with
    | .shl=>UW op j a b k
    | .shr=>UW op j a b k
    | _=>no 13
  | _=>no 25
 | .c (.bool a)=>match y with
  | .c (.bool b)=>match T.get t with
   | some i=>match i.k with
    | .bool=>E0 op (a==b) k
    | _=>no 12
   | none=>no 11
  | _=>no 10
 | .s a=>match y with
  | .s b=>binS op a b k
  | _=>no 26
 | .a xs=>match y with
  | .a ys=>match eqA T t xs ys with
   | some b=>E0 op b k
   | none=>no 28
  | _=>no 17
 | x=>bNil T op t x y k
def un(op:UnOp)(x:V)(k:V->X β):= match op with
 | .not=>match x with
  | .c (.bool b)=>cb (!b) k
  | _=>no 29
 | .neg=>match x with
  | .c (.int j n)=>ci j (j.wrap (0-n)) k
  | _=>no 30
 | _=>no 31
def row(o:Nat):Option (List V):=match h.get o with
 | some (.c _ _ cs)=>some cs
 | some (.k cs)=>some cs
 | _=>none
def UX(o off n:Nat)(k:List V->X β):X β:=match row h o with
 | some cs=>match Nat.ble (off+n) cs.length with
  | true=>NY off cs λl=>SJ n l k
  | false=>no 32
 | none=>no 33
def NZ(t:Nat)(x:V)(k:V->X β):= match x with
 | .p o off=>match T.get t with
  | some i=>match i.g with
   | 0=>match row h o with
    | some cs=>match nth cs off with
     | some v=>k v
     | none=>no 34
    | none=>no 35
   | _+1=>UX h o off i.sz λl=>k (.a l)
  | none=>no 36
 | _=>no 37
def place(t:TI)(i:Nat):= match t.k with
 | .st f=>match nth f i with
  | some (off,_,sz)=>some (off,sz)
  | none=>none
 | _=>some (i*t.ez,t.ez)
def fill(t:TI):List (Nat×uH)->List V->(List V->X β)->X β
 | [],cs,k=>k cs
 | (i,x)::rest,cs,k=>match place t i with
  | some (off,sz)=>lE env x λv=>match cells v with
   | some vs=>match Nat.beq vs.length sz && Nat.ble (off+sz) cs.length with
    | true=>K2 vs off cs λcs=>fill t rest cs k
    | false=>no 39
   | none=>no 40
  | none=>no 41
def src(sz:Nat)(x:V)(k:Nat->List V->X β):X β:=match x with
 | .s l=>match Nat.beq sz 1 with
  | true=>XS (λb k=>k (.c (.int .u8 (.ofNat b)))) l λcs=>lenK l 0 λn=>k n cs
  | false=>no 43
 | .c (.slice none 0 0)=>k 0 []
 | .z=>k 0 []
 | .l o off n _=>UX h o off (n*sz) λcs=>k n cs
 | _=>no 42
def Pz(x y:V):= match x with
 | .a xs=>match y with
  | .a ys=>eqs xs ys
  | _=>none
 | x=>eq1 x y
def LC(t:Nat)(x:V):Bool:=match T.get t with
 | some i=>match x with
  | .c (.int _ _)=>match i.k with
   | .int _=>true
   | _=>false
  | .s _=>match i.k with
   | .str=>true
   | _=>false
  | .a cs=>match i.k with
   | .st _=>match i.fq with
    | some ks=>fits ks cs
    | none=>false
   | _=>false
  | _=>false
 | none=>false
def wy(t:Nat)(x:V):List (V×Nat×V)->Bool
 | []=>true
 | (y,_,_)::es=>match LC T t y with
  | true=>match Pz x y with
   | some _=>wy t x es
   | none=>false
  | false=>false
def N0(t:Nat)(x:V)(es:List (V×Nat×V)):Bool:=match LC T t x with
 | true=>wy T t x es
 | false=>false
def SK(x:V):List (V×Nat×V)->Option (Nat×V)
 | []=>none
 | (y,b,v)::es=>match Pz x y with
  | some true=>some (b,v)
  | _=>SK x es
def XV(x v:V)(ck:Nat):List (V×Nat×V)->(List (V×Nat×V)->Nat->X β)->X β
 | [],k=>fN (Nat.succ ck) λc=>k [(x,ck,v)] c
 | (y,b,u)::es,k=>match Pz x y with
  | some true=>k ((x,b,v)::es) ck
  | _=>XV x v ck es λes c=>k ((y,b,u)::es) c
end ops
end Go.CI
namespace Go.CI
section op
variable {β:Type}(T:Tr TI)(env:Tr V)
def XW(c:V)(a b:uH)(k:V->X β):= match c with
 | .c (.bool true)=>lE env a k
 | .c (.bool false)=>lE env b k
 | _=>no 50
def QJ(t:Nat)(ps:List (Nat×uH))(k:V->X β):X β:=match T.get t with
 | some i=>match agg i.k with
  | true=>match cells i.z with
   | some z=>fill env i ps z λcs=>k (.a cs)
   | none=>no 51
  | false=>no 48
 | none=>no 52
def oNil(x:V)(k:V->X β):= match x with
 | .p o i=>k (.p o i)
 | _=>no 53
def LD(s:Nat)(x:V)(f:Nat)(k:V->X β):= match x with
 | .p o off=>match T.get s with
  | some i=>match i.k with
   | .st h=>match nth h f with
    | some (d,_,sz)=>match Nat.ble 1 sz with
     | true=>fN (off+d) λd=>k (.p o d)
     | false=>no 53
    | none=>no 54
   | _=>no 55
  | none=>no 56
 | _=>no 57
def XX(t:Nat)(x y:V)(k:V->X β):X β:=match toN y with
 | some j=>match T.get t with
  | some i=>match x with
   | .l o off n _=>match i.k with
    | .sl _=>match Nat.ble (j+1) n with
     | true=>fN (off+j*i.ez) λd=>k (.p o d)
     | false=>no 62
    | _=>no 63
   | .p o off=>match i.k with
    | .ar n _=>match Nat.ble (j+1) n with
     | true=>fN (off+j*i.ez) λd=>k (.p o d)
     | false=>no 64
    | _=>no 65
   | _=>no 66
  | none=>no 67
 | none=>no 68
def oIdx(t:Nat)(x y:V)(k:V->X β):X β:=match toN y with
 | some j=>match x with
  | .s l=>match T.get t with
   | some i=>match i.k with
    | .str=>match nth l j with
     | some b=>k (.c (.int .u8 (.ofNat b)))
     | none=>no 69
    | _=>no 49
   | none=>no 47
  | _=>no 73
 | none=>no 74
def XY(t:Nat)(x:V)(k:V->X β):X β:=match T.get t with
 | some i=>match i.k with
  | .int j=>match x with
   | .c (.int _ n)=>ci j (j.wrap n) k
   | _=>no 75
  | _=>no 77
 | none=>no 78
def oExt(x:V)(i:Nat)(k:V->X β):= match x with
 | .t cs=>match nth cs i with
  | some v=>k v
  | none=>no 79
 | _=>no 80
def mm(b:Bool)(x y:V)(k:V->X β):= match x with
 | .c (.int j m)=>match y with
  | .c (.int _ n)=>match b with
   | true=>match decide (n<m)with
    | true=>k (.c (.int j n))
    | false=>k (.c (.int j m))
   | false=>match decide (n > m)with
    | true=>k (.c (.int j n))
    | false=>k (.c (.int j m))
  | _=>no 81
 | _=>no 82
def mms(b:Bool):List V->V->(V->X β)->X β
 | [],x,k=>k x
 | y::l,x,k=>mm b x y λz=>mms b l z k
def oMM(b:Bool):List V->(V->X β)->X β
 | [],_=>no 83
 | x::l,k=>mms b l x k
def oCap(l:List V)(k:V->X β):= match l with
 | [.c (.slice none 0 0)]=>k (cI 0)
 | _=>no 84
def oLen(t:TK)(h:Tr Ob)(x:V)(k:V->X β):= match x with
 | .s l=>match t with
  | .str=>lenK l 0 λn=>k (cI (.ofNat n))
  | _=>no 86
 | .l _ _ n _=>match t with
  | .sl _=>k (cI (.ofNat n))
  | _=>no 85
 | .c (.slice none 0 0)=>match t with
  | .sl _=>k (cI 0)
  | _=>no 84
 | _=>no 88
def capB(h:Tr Ob)(o off n ez b:Nat):Option Nat->Bool
 | some c=>Nat.ble b c
 | none=>match h.get o with
  | some (.c _ sz cs)=>match Nat.beq sz ez with
   | true=>match Nat.ble b n with
    | true=>true
    | false=>match Nat.ble 1 ez with
     | true=>Nat.ble (off+b*ez) cs.length
     | false=>false
   | false=>false
  | _=>false
def oSlS(l:List Nat)(lo hi:Option V)(k:V->X β):X β:=match LB lo 0 with
 | some a=>match LB hi l.length with
  | some b=>match Nat.ble a b && Nat.ble b l.length with
   | true=>NY a l λl=>SJ (b-a) l λl=>k (.s l)
   | false=>no 89
  | none=>no 90
 | none=>no 91
def mkL(o off a b m ez:Nat)(k:V->X β):X β:=match Nat.beq m a with
 | true=>k (.l o off 0 (some 0))
 | false=>fN (off+a*ez) λoff=>fN (b-a) λn=>fN (m-a) λc=>k (.l o off n (some c))
def oSlL(h:Tr Ob)(ez o off n:Nat)(c:Option Nat)(lo hi H:Option V)(k:V->X β):X β:=match LB lo 0 with
 | some a=>match LB hi n with
  | some b=>match Nat.ble a b with
   | true=>match H with
    | none=>match capB h o off n ez b c with
     | true=>match c with
      | some c=>mkL o off a b c ez k
      | none=>match Nat.beq a b with
       | true=>k .z
       | false=>fN (off+a*ez) λoff=>fN (b-a) λn=>k (.l o off n none)
     | false=>no 94
    | some m=>match hi with
     | none=>no 91
     | some _=>match toN m with
      | some m=>match Nat.ble b m with
       | true=>match capB h o off n ez m c with
        | true=>mkL o off a b m ez k
        | false=>no 92
       | false=>no 90
      | none=>no 93
   | false=>no 89
  | none=>no 95
 | none=>no 96
def oSl(h:Tr Ob)(t:Nat)(x:V)(lo hi m:Option V)(k:V->X β):X β:=match T.get t with
 | some i=>match i.k with
  | .str=>match x with
   | .s l=>match m with
    | none=>oSlS l lo hi k
    | some _=>no 97
   | _=>no 98
  | .sl _=>match x with
   | .l o off n c=>oSlL h i.ez o off n c lo hi m k
   | .c (.slice none 0 0)=>match m with
    | none=>match LB lo 0 with
     | some 0=>match LB hi 0 with
      | some 0=>k (.c (.slice none 0 0))
      | _=>no 99
     | _=>no 100
    | some _=>no 97
   | _=>no 101
  | .ar n _=>match x with
   | .p o off=>oSlL h i.ez o off n (some n) lo hi m k
   | _=>no 102
  | _=>no 103
 | none=>no 104
def zk(v:V)(k:V->X β):= match v with
 | .t _=>no 111
 | v=>k v
def XZ(h:Tr Ob)(t:Nat)(x y:V)(ok:Bool)(k:V->X β):X β:=match T.get t with
 | some i=>match i.k with
  | .mp H _=>match x with
   | .m o=>match h.get o with
    | some (.m es _)=>match N0 T H y es with
     | true=>match SK y es with
      | some (_,v)=>match ok with
       | true=>k (.t [v,cB true])
       | false=>k v
      | none=>zk i.ev λz=>match ok with
       | true=>k (.t [z,cB false])
       | false=>k z
     | false=>no 105
    | _=>no 106
   | _=>no 107
  | _=>no 108
 | none=>no 109
def toB(c:V)(k:Nat->X β):= match c with
 | .c (.int .u8 (.ofNat n))=>match Nat.ble n 255 with
  | true=>k n
  | false=>no 105
 | _=>no 110
def UY(h:Tr Ob)(x:V)(k:V->X β):= match x with
 | .s _=>no 104
 | x=>src h 1 x λ_ cs=>bs cs λl=>k (.s l)
where bs:LQ V->(LQ Nat->X β)->X β
 | [],k=>k []
 | c::l,k=>toB c λn=>bs l λl=>k (n::l)
def opV(x:Option uH)(k:Option V->X β):= match x with
 | none=>k none
 | some x=>lE env x λv=>k (some v)
def QK(nx t:Nat)(k:V->Ob->X β):X β:=match T.get t with
 | some i=>match cells i.z with
  | some cs=>fN i.sz λs=>k (.p nx 0) (.c t s cs)
  | none=>no 113
 | none=>no 114
def aBox(nx t:Nat)(v:V)(k:V->Ob->X β):X β:=match T.get t with
 | some i=>match cells v with
  | some cs=>fN i.sz λs=>k (.p nx 0) (.c t s cs)
  | none=>no 115
 | none=>no 116
def aBSl(nx t n:Nat)(ps:List (Nat×uH))(k:V->Ob->X β):X β:=match T.get t with
 | some i=>match i.k with
  | .sl e=>match cells i.ev with
   | some z=>match Nat.ble (n*i.ez) 16777216 with
    | true=>repK z n λcs=>fill env i ps cs λcs=>fN i.ez λs=>k (.l nx 0 n (some n)) (.c e s cs)
    | false=>no 115
   | none=>no 117
  | _=>no 118
 | none=>no 119
def X0(nx t:Nat)(l c:V)(k:V->Ob->X β):X β:=match T.get t with
 | some i=>match i.k with
  | .sl e=>match toN l with
   | some n=>match toN c with
    | some c=>match Nat.ble n c with
     | true=>match cells i.ev with
      | some z=>match Nat.ble c 9223372036854775807 && Nat.ble (c*i.eb) 281474976710656 with
       | false=>no 119
       | true=>repK z c λcs=>fN n λn=>fN c λc=>fN i.ez λs=>k (.l nx 0 n (some c)) (.c e s cs)
      | none=>no 120
     | false=>no 121
    | none=>no 122
   | none=>no 123
  | _=>no 124
 | none=>no 125
def QL(nx:Nat)(x:V)(k:V->Ob->X β):= match x with
 | .s l=>k (.p nx 0) (.i l 0)
 | _=>no 129
def stO(o off:Nat)(new:List V)(h:Tr Ob)(k:Tr Ob->X β):= match new with
 | []=>k h
 | _=>match h.get o with
  | some (.c ty sz cs)=>match Nat.ble (off+new.length) cs.length with
   | true=>K2 new off cs λcs=>Tr.set 64 h o (.c ty sz cs) k
   | false=>no 131
  | _=>no 132
def X1(e sz eb n:Nat)(old new:List V)(nx:Nat)(h:Tr Ob)(k:V->Nat->Tr Ob->X β):X β:=match Nat.ble n 4611686018427387904 && Nat.ble (n*eb) 140737488355328 with
 | false=>no 129
 | true=>UU old new λcs=>Tr.set 64 h nx (.c e sz cs) λh=>fN n λn=>fN (nx+1) λd=>k (.l nx 0 n none) d h
def X2(s:V)(e sz eb:Nat)(n:Nat)(new:List V)(nx:Nat)(h:Tr Ob)(k:V->Nat->Tr Ob->X β):=
 match s with
 | .c (.slice none 0 0)=>match n with
  | 0=>k (.c (.slice none 0 0)) nx h
  | _=>X1 e sz eb n [] new nx h k
 | .l o off m c=>match n with
  | 0=>k (.l o off m c) nx h
  | _=>match c with
   | some c=>match Nat.ble (m+n) c with
    | true=>stO o (off+m*sz) new h λh=>fN (m+n) λn=>k (.l o off n (some c)) nx h
    | false=>UX h o off (m*sz) λold=>X1 e sz eb (m+n) old new nx h k
   | none=>match h.get o with
    | some (.c t0 s cs)=>match Nat.beq t0 e && (Nat.beq off 0 && (Nat.beq s sz && Nat.ble 1 sz))with
     | true=>match Nat.ble (off+(m+n)*sz) cs.length with
      | true=>no 0
      | false=>UX h o off (m*sz) λold=>Tr.set 64 h o .g λh=>X1 e sz eb (m+n) old new nx h k
     | false=>no 132
    | _=>no 133
 | _=>no 134
def SL(ts:List Nat)(s x:V)(nx:Nat)(h:Tr Ob)(k:V->Nat->Tr Ob->X β):= match ts with
 | [t,u]=>match T.get t with
  | some i=>match i.k with
   | .sl e=>match cells i.ev with
    | some z=>match T.get u with
     | some j=>match j.k with
      | .sl _=>src h i.ez x λn new=>X2 s e i.ez i.eb n new nx h k
      | .str=>src h i.ez x λn new=>X2 s e i.ez i.eb n new nx h k
      | _=>no 136
     | none=>no 137
    | none=>no 135
   | _=>no 136
  | none=>no 137
 | _=>no 138
def X3(t:Nat)(k:Nat->X β):X β:=match T.get t with
 | some i=>match i.k with
  | .mp h _=>k h
  | _=>no 151
 | none=>no 152
def oIns(t:Nat)(m x v:V)(h:Tr Ob)(k:Tr Ob->X β):= match m with
 | .m o=>match h.get o with
  | some (.m es ck)=>X3 T t λH=>match N0 T H x es with
   | true=>XV x v ck es λes ck=>Tr.set 64 h o (.m es ck) k
   | false=>no 145
  | _=>no 146
 | _=>no 147
def QM(t:Nat)(x v:V)(nx:Nat)(h:Tr Ob)(k:V->Nat->Tr Ob->X β):= match x with
 | .p o off=>match T.get t with
  | some i=>match cells v with
   | some cs=>match Nat.beq cs.length i.sz with
    | true=>stO o off cs h λh=>k undef nx h
    | false=>no 153
   | none=>no 154
  | none=>no 156
 | _=>no 155
def X4(x:V)(nx:Nat)(h:Tr Ob)(k:V->Nat->Tr Ob->X β):= match x with
 | .p o 0=>match h.get o with
  | some (.i s pos)=>match nth s pos with
   | some b=>match Nat.ble b 127 with
    | true=>fN (Nat.succ pos) λq=>Tr.set 64 h o (.i s q) λh=>k (.t [cB true,cI (.ofNat pos),.c (.int .i32 (.ofNat b))]) nx h
    | false=>no 210
   | none=>k (.t [cB false]) nx h
  | _=>no 211
 | _=>no 212
def eSD(l:List V)(nx:Nat)(h:Tr Ob)(k:V->Nat->Tr Ob->X β):= match l with
 | [.l o off (_+1) _]=>k (.p o off) nx h
 | _=>no 213
def eUS(ts:List Nat)(l:List V)(nx:Nat)(h:Tr Ob)(k:V->Nat->Tr Ob->X β):= match ts with
 | t::_=>match T.get t with
  | some i=>match i.k with
   | .pt=>match l with
    | [.p o off,.c (.int .i64 (.ofNat n))]=>match h.get o with
     | some (.c e 1 cs)=>match Nat.beq e i.pe && (Nat.ble 1 n && (Nat.ble (off+n) cs.length && Nat.ble n 9223372036854775807))with
      | true=>match T.get e with
       | some j=>match Nat.beq j.sz 1 with
        | true=>NY off cs λl=>SJ n l λl=>UY.bs l λbs=>Tr.set 64 h o .g λh=>k (.s bs) nx h
        | false=>no 214
       | none=>no 215
      | false=>no 216
     | _=>no 217
    | _=>no 218
   | _=>no 219
  | none=>no 220
 | _=>no 221
def eBu(b:Builtin)(ts:List Nat)(l:List V)(nx:Nat)(h:Tr Ob)(k:V->Nat->Tr Ob->X β):= match b with
 | .append=>match l with
  | [s,x]=>SL T ts s x nx h k
  | _=>no 156
 | .unsafeSliceData=>eSD l nx h k
 | .unsafeString=>eUS T ts l nx h k
 | _=>no 160
end op
inductive Cf where
 | k (todo:List Item)
 | o (l rest:List Oper) (todo:List Item)
structure Cx where
 fn:Nat
 ro:LX Nat
 n:Nat
 dk:Bool
inductive Df where
 | c (g:Nat) (cs:List V)
 | m (o:Nat)
structure FZ where
 cf:Cf
 env:Tr V
 nx:Nat
 h:Tr Ob
 ds:LQ Df
inductive S1 where
 | go (s:FZ)
 | fin (v:V) (nx:Nat) (h:Tr Ob)
abbrev EF:=LQ V->Nat->Tr Ob->(V->Nat->Tr Ob->X S1)->X S1
abbrev ET:=Nat->LX EF
inductive Ac where
 | pu (g:Tr V->(V->X S1)->X S1)
 | rd (g:Tr V->Tr Ob->(V->X S1)->X S1)
 | al (g:Tr V->Nat->(V->Ob->X S1)->X S1)
 | ef (g:Tr V->Nat->Tr Ob->(V->Nat->Tr Ob->X S1)->X S1)
 | ca (f:uH) (xs:List uH)
 | df (f:uH)
 | no (n:Nat)
section act
variable (T:Tr TI)
def Hi(b:Builtin)(l:List uH)(ts:List Nat):Ac:=match b with
 | .len=>match l with
  | [x]=>match ts with
   | t::_=>match T.get t with
    | some i=>.rd λenv h k=>lE env x λx=>oLen i.k h x k
    | none=>.no 107
   | []=>.no 106
  | _=>.no 111
 | .cap=>match ts with
  | t::_=>match T.get t with
   | some i=>match i.k with
    | .sl _=>.pu λenv k=>bZ env l λl=>oCap l k
    | _=>.no 110
   | none=>.no 109
  | []=>.no 108
 | .min=>.pu λenv k=>bZ env l λl=>oMM true l k
 | .max=>.pu λenv k=>bZ env l λl=>oMM false l k
 | b=>.ef λenv nx h k=>bZ env l λl=>eBu T b ts l nx h k
def u8T(e:Nat):Bool:=match T.get e with
 | some i=>match i.k with
  | .int .u8=>true
  | _=>false
 | none=>false
def Hj(s t:Nat)(x:uH):Ac:=match T.get t with
 | some i=>match i.k with
  | .str=>match T.get s with
   | some j=>match j.k with
    | .sl e=>match u8T T e with
     | true=>.rd λenv h k=>lE env x λx=>UY h x k
     | false=>.no 101
    | _=>.no 100
   | none=>.no 112
  | _=>match T.get s with
   | some j=>match j.k with
    | .int _=>.pu λenv k=>lE env x λx=>XY T t x k
    | _=>.no 99
   | none=>.no 98
 | none=>.no 113
def act(o:Op):Ac:=match o with
 | .move x=>.pu λenv k=>lE env x k
 | .assign x=>.pu λenv k=>lE env x k
 | .pick c a b=>.pu λenv k=>lE env c λc=>XW env c a b k
 | .build t ps=>.pu λenv k=>QJ T env t ps.toList k
 | .nilCheck x=>.pu λenv k=>lE env x λx=>oNil x k
 | .binOp op t x y _=>.pu λenv k=>lE env x λx=>lE env y λy=>bin T op t x y k
 | .unOp op _ x=>.pu λenv k=>lE env x λx=>un op x k
 | .convert s t x=>Hj T s t x
 | .makeFunc (.func f) d cs=>match d.toList with
  | []=>.pu λenv k=>bZ env cs.toList λcs=>k (.f f cs)
  | _=>.no 85
 | .fieldAddr s x f=>.pu λenv k=>lE env x λx=>LD T s x f k
 | .indexAddr t x i=>.pu λenv k=>lE env x λx=>lE env i λi=>XX T t x i k
 | .index t x i=>.pu λenv k=>lE env x λx=>lE env i λi=>oIdx T t x i k
 | .extract x i=>.pu λenv k=>lE env x λx=>oExt x i k
 | .load t x=>.rd λenv h k=>lE env x λx=>NZ T h t x k
 | .slice t x lo hi H=>.rd λenv h k=>lE env x λx=>opV env lo λlo=>opV env hi λhi=>opV env H λH=>oSl T h t x lo hi H k
 | .lookup t x i ok=>.rd λenv h k=>lE env x λx=>lE env i λi=>XZ T h t x i ok k
 | .alloc t=>.al λenv nx k=>QK T nx t k
 | .box t x=>.al λenv nx k=>lE env x λx=>aBox T nx t x k
 | .buildSlice t n ps=>.al λenv nx k=>aBSl T env nx t n ps.toList k
 | .makeMap t n=>match n with
  | none=>.al λ_ nx k=>k (.m nx) (.m [] 0)
  | some x=>.no 0
 | .makeSlice t l c=>.al λenv nx k=>lE env l λl=>lE env c λc=>X0 T nx t l c k
 | .range t x=>match T.get t with
  | some i=>match i.k with
   | .str=>.al λenv nx k=>lE env x λx=>QL nx x k
   | _=>.no 105
  | none=>.no 106
 | .store t x y=>.ef λenv nx h k=>lE env x λx=>lE env y λy=>QM T t x y nx h k
 | .mapUpdate t m x v=>.ef λenv nx h k=>lE env v λv=>lE env x λx=>lE env m λm=>oIns T t m x v h λh=>k undef nx h
 | .next x true=>.ef λenv nx h k=>lE env x λx=>X4 x nx h k
 | .call ⟨f,xs,ts⟩=>match f with
  | .builtin b=>Hi T b xs.toList ts.toList
  | .value f=>.ca f xs.toList
  | _=>.no 114
 | _=>.no 117
end act
section fr
variable {β:Type}(T:Tr TI)(F:Tr Func)(E:ET)(run:Cx->FZ->(V->Nat->Tr Ob->X S1)->X S1)
def SM:Nat->List V->Tr V->(Tr V->X S1)->X S1
 | _,[],t,k=>k t
 | i,v::l,t,k=>Tr.set 64 t i v λt=>SM (i+1) l t k
def o7(env:Tr V)(h:Tr Ob):List ResultVar->(List V->X S1)->X S1
 | [],k=>k []
 | .tmp t::l,k=>lE env (.tmp t) λv=>o7 env h l λr=>k (v::r)
 | .cell a t::l,k=>lE env (.tmp a) λa=>NZ T h t a λv=>o7 env h l λr=>k (v::r)
def X5(l:List V)(k:V->X S1):= match l with
 | [v]=>k v
 | l=>k (.t l)
def xc(n:Nat)(d:Option Nat)(v:V)(env:Tr V)(k:Tr V->X S1):= match d with
 | none=>k env
 | some d=>match Nat.ble (d+1) n with
  | true=>Tr.set 64 env d v k
  | false=>no 169
def D8(dk:Bool)(g:Nat)(xs:List V)(nx:Nat)(h:Tr Ob)(k:V->Nat->Tr Ob->X S1):X S1:=match F.get g with
 | some fn=>match fn.body with
  | some c=>SM 0 xs .e λenv=>fN fn.ntmps λn=>run ⟨g,none,n,dk⟩ ⟨.k [.code c],env,nx,h,[]⟩ k
  | none=>no 170
 | none=>no 171
def SN(g:Nat)(xs:List V)(nx:Nat)(h:Tr Ob)(k:V->Nat->Tr Ob->X S1):X S1:=match E g with
 | some x=>x xs nx h k
 | none=>D8 F run false g xs nx h k
def D9(l:List Oper)(env:Tr V):Option (Nat×Bool)->Option Bool
 | none=>some true
 | some (j,want)=>match nth l j with
  | some o=>match o.dst with
   | some t=>match env.get t with
    | some (.c (.bool b))=>some (b==want)
    | some (.t [])=>some false
    | _=>none
   | none=>none
  | none=>none
def leave(v:List ResultVar)(env:Tr V):List Df->Nat->Tr Ob->X S1
 | [],nx,h=>o7 T env h v λr=>X5 r λv=>.v (.fin v nx h)
 | .m _::_,_,_=>no 165
 | .c g cs::ds,nx,h=>D8 F run true g cs nx h λ_ nx h=>leave v env ds nx h
def outK(cx:Cx)(v:List ResultVar)(env:Tr V)(nx:Nat)(h:Tr Ob)(ds:List Df):= match ds with
 | []=>o7 T env h v λr=>X5 r λv=>.v (.fin v nx h)
 | [.m o]=>match cx.dk with
  | true=>no 163
  | false=>match h.get o with
   | some .d=>Tr.set 64 h o .g λh=>o7 T env h v λr=>X5 r λv=>.v (.fin v nx h)
   | _=>no 164
 | ds=>match cx.dk with
  | true=>no 166
  | false=>leave T F run v env ds nx h
def Hk(n:Nat):List Nat->List V->Tr V->(Tr V->X S1)->X S1
 | [],[],e,k=>k e
 | p::ps,v::vs,e,k=>xc n (some p) v e λe=>Hk n ps vs e k
 | _,_,_,_=>no 172
def oCall(f:V)(xs:List V)(nx:Nat)(h:Tr Ob)(k:V->Nat->Tr Ob->X S1):= match f with
 | .f g cs=>UU xs cs λxs=>SN F E run g xs nx h k
 | .y lo=>match h.get lo with
  | some (.r true fn n e ps a b)=>Hk n ps xs e λe'=>run ⟨fn,some lo,n,false⟩ ⟨.k [.code a,.beginRound,.code b],e',nx,h,[]⟩ λ_ nx h=>match h.get lo with
   | some (.r false H n2 c p a2 b2)=>Tr.set 64 h lo (.r true H n2 c p a2 b2) λh=>k (cB true) nx h
   | _=>no 175
  | _=>no 173
 | _=>no 174
def opK(a:Ac)(env:Tr V)(nx:Nat)(h:Tr Ob)(k:V->Nat->Tr Ob->X S1):= match a with
 | .pu g=>g env λv=>k v nx h
 | .rd g=>g env h λv=>k v nx h
 | .al g=>g env nx λv ob=>Tr.set 64 h nx ob λh=>fN (Nat.succ nx) λnx=>k v nx h
 | .ef g=>g env nx h k
 | .ca f xs=>bZ env xs λxs=>lE env f λf=>oCall F E run f xs nx h k
 | .df _=>no 175
 | .no n=>no n
def opS(cx:Cx)(o:Oper)(l rest:List Oper)(k:List Item)(env:Tr V)(nx:Nat)(h:Tr Ob)(ds:List Df):X S1:=match D9 l env o.guard with
 | none=>no 176
 | some false=>xc cx.n o.dst undef env λenv=>.v (.go ⟨.o l rest k,env,nx,h,ds⟩)
 | some true=>match act T o.op with
  | .df f=>no 0
  | a=>opK F E run a env nx h λv nx h=>xc cx.n o.dst v env λenv=>.v (.go ⟨.o l rest k,env,nx,h,ds⟩)
def tb(m j:Nat):= Nat.beq (Nat.mod (Nat.div m (Nat.pow 2 j)) 2) 1
def N1(env:Tr V):List Nat->Tr V->(Tr V->X S1)->X S1
 | [],t,k=>k t
 | s::l,t,k=>match env.get s with
  | some v=>Tr.set 64 t s v λt=>N1 env l t k
  | none=>N1 env l t k
def zo(m:Nat->Bool):List (Nat×Nat×Ob)->Tr Ob->(Tr Ob->X S1)->X S1
 | [],h,k=>k h
 | (j,a,ob)::l,h,k=>match m j with
  | true=>match h.get a with
   | some _=>zo m l h k
   | none=>Tr.set 64 h a ob λh=>zo m l h k
  | false=>zo m l h k
def X6:uB->uB->Bool
 | .int j a,.int k b=>match decide (j=k)with
  | true=>decide (a=b)
  | false=>false
 | .bool a,.bool b=>a==b
 | .pointer none,.pointer none=>true
 | .slice none 0 0,.slice none 0 0=>true
 | .map none,.map none=>true
 | .nilFunc,.nilFunc=>true
 | _,_=>false
def X7:Option Nat->Option Nat->Bool
 | none,none=>true
 | some a,some b=>Nat.beq a b
 | _,_=>false
mutual
def pg:V->V->Bool
 | .c a,.c b=>X6 a b
 | .s a,.s b=>XU a b
 | .p a b,.p c d=>Nat.beq a c && Nat.beq b d
 | .l a b c d,.l e f g h=>Nat.beq a e && Nat.beq b f && Nat.beq c g && X7 d h
 | .z,.z=>true
 | .m a,.m b=>Nat.beq a b
 | .y a,.y b=>Nat.beq a b
 | .f a b,.f c d=>Nat.beq a c && xZ b d
 | .a a,.a b=>xZ a b
 | .t a,.t b=>xZ a b
 | _,_=>false
def xZ:List V->List V->Bool
 | [],[]=>true
 | a::l,b::m=>pg a b && xZ l m
 | _,_=>false
end
inductive Rd where
 | mk (i m:Nat) (env:Tr V) (g:Tr V->Tr Ob->(V->X S1)->X S1) (v:V)
def QN(h0:Tr Ob):List (Nat×Tr Ob)->Tr Ob
 | []=>h0
 | (_,H)::_=>H
def Hl(a:Nat)(al:List (Nat×Nat×Ob))(H:Tr Ob)(k:X S1):List Rd->X S1
 | []=>k
 | .mk i m e g v::l=>match tb a i with
  | true=>Hl a al H k l
  | false=>zo (tb m) al H λh=>g e h λu=>match pg v u with
   | true=>Hl a al H k l
   | false=>no 201
def SO(m:Nat)(al:List (Nat×Nat×Ob))(g:Tr V->Tr Ob->(V->X S1)->X S1)(e:Tr V)(v:V)(h0:Tr Ob)(k:X S1):List (Nat×Tr Ob)->X S1
 | []=>k
 | (i,_)::l=>match tb m i with
  | true=>k
  | false=>zo (tb m) al (QN h0 l) λh=>g e h λu=>match pg v u with
   | true=>SO m al g e v h0 k l
   | false=>no 202
def LF(m:Nat):List (Nat×Tr Ob)->Bool
 | []=>true
 | (i,_)::l=>match tb m i with
  | true=>LF m l
  | false=>false
def drK(cx:Cx)(l:List Oper)(h0:Tr Ob):List Oper->List Nat->Nat->Tr V->Nat->List (Nat×Tr Ob)->List (Nat×Nat×Ob)->List Rd->(Tr V->Nat->Tr Ob->X S1)->X S1
 | [],_,_,env,nx,kQ,al,_,k=>zo (λ_=>true) al (QN h0 kQ) λh=>k env nx h
 | _::_,[],_,_,_,_,_,_,_=>no 203
 | o::os,m::ms,i,env,nx,kQ,al,y,k=>N1 env (Go.Abs.xr l o) .e λe=>match D9 l e o.guard with
  | none=>no 204
  | some false=>xc cx.n o.dst undef env λenv=>fN (Nat.succ i) λi=>drK cx l h0 os ms i env nx kQ al y k
  | some true=>match act T o.op with
   | .pu g=>g e λv=>xc cx.n o.dst v env λenv=>fN (Nat.succ i) λi=>drK cx l h0 os ms i env nx kQ al y k
   | .al g=>g e nx λv ob=>xc cx.n o.dst v env λenv=>fN (Nat.succ nx) λd=>fN (Nat.succ i) λH=>drK cx l h0 os ms H env d kQ ((i,nx,ob)::al) y k
   | .rd g=>zo (tb m) al (QN h0 kQ) λh=>g e h λv=>SO m al g e v h0 (xc cx.n o.dst v env λenv=>fN (Nat.succ i) λH=>drK cx l h0 os ms H env nx kQ al (.mk i m e g v::y) k) kQ
   | .df _=>no 205
   | .no n=>no n
   | a=>match LF m kQ with
    | false=>no 206
    | true=>zo (tb m) al (QN h0 kQ) λh=>opK F E run a e nx h λv d h'=>Hl m al h' (xc cx.n o.dst v env λenv=>fN (Nat.succ i) λH=>drK cx l h0 os ms H env d ((i,h')::kQ) al y k) y
def X8(cx:Cx)(l:List Oper)(env:Tr V)(nx:Nat)(h:Tr Ob)(k:Tr V->Nat->Tr Ob->X S1):X S1:=match Go.Abs.dB l l.length with
 | true=>XS (λn k=>fN n k) (Go.Abs.cn l []) λm=>drK T F E run cx l h l m 0 env nx [] [] [] k
 | false=>no 207
def QO(cx:Cx)(f:V)(ps:List Nat)(a b:Code)(k:List Item)(env:Tr V)(nx:Nat)(h:Tr Ob)(ds:List Df):= match f with
 | .f g cs=>match ds with
  | []=>match cx.ro with
   | none=>match cx.dk with
    | false=>Tr.set 64 h nx .d λh=>fN (Nat.succ nx) λl=>Tr.set 64 h l (.r true cx.fn cx.n env ps a b) λh=>fN (Nat.succ l) λc =>
     D8 F run false g (.y l::cs) c h λ_ H h=>match h.get l with
      | some (.r true _ _ _ _ _ _)=>Tr.set 64 h l .g λh=>.v (.go ⟨.k k,env,H,h,[.m nx]⟩)
      | _=>no 167
    | true=>no 192
   | some _=>no 193
  | _=>no 194
 | _=>no 179
def X9(cx:Cx)(c:Code)(k:List Item)(env:Tr V)(nx:Nat)(h:Tr Ob)(ds:List Df):X S1:=match c with
 | .skip=>.v (.go ⟨.k k,env,nx,h,ds⟩)
 | .label _=>.v (.go ⟨.k k,env,nx,h,ds⟩)
 | .seq a b=>.v (.go ⟨.k (.code a::.code b::k),env,nx,h,ds⟩)
 | .cond c x y=>lE env c λc=>match c with
  | .c (.bool true)=>.v (.go ⟨.k (.code x::k),env,nx,h,ds⟩)
  | .c (.bool false)=>.v (.go ⟨.k (.code y::k),env,nx,h,ds⟩)
  | _=>no 180
 | .block id c=>.v (.go ⟨.k (.code c::.inBlock id::k),env,nx,h,ds⟩)
 | .loop c=>.v (.go ⟨.k (.code c::.inLoop c::k),env,nx,h,ds⟩)
 | .exit id=>match exitTo id k with
  | some k=>.v (.go ⟨.k k,env,nx,h,ds⟩)
  | none=>no 181
 | .goto l=>match gotoIn l k with
  | some k=>.v (.go ⟨.k k,env,nx,h,ds⟩)
  | none=>no 182
 | .scope _=>no 198
 | .region _ ops d=>match d with
  | false=>.v (.go ⟨.o ops.toList ops.toList k,env,nx,h,ds⟩)
  | true=>X8 T F E run cx ops.toList env nx h λenv nx h=>.v (.go ⟨.k k,env,nx,h,ds⟩)
 | .rangeFunc f ps a b=>lE env f λf=>QO F run cx f ps.toList a b k env nx h ds
 | .ret=>match cx.ro with
  | some _=>no 183
  | none=>match F.get cx.fn with
   | some fn=>outK T F run cx fn.results.toList env nx h ds
   | none=>no 184
 | .refuse _=>no 185
def step(cx:Cx)(s:FZ):X S1:=match s with
 | ⟨.k [],env,nx,h,ds⟩=>match cx.ro with
  | some _=>match ds with
   | []=>match cx.dk with
    | false=>.v (.fin (cB true) nx h)
    | true=>no 199
   | _=>no 196
  | none=>match F.get cx.fn with
   | some fn=>match ds with
    | []=>outK T F run cx fn.results.toList env nx h []
    | _=>no 197
   | none=>no 186
 | ⟨.k (it::k),env,nx,h,ds⟩=>match it with
  | .code c=>X9 T F E run cx c k env nx h ds
  | .inBlock _=>.v (.go ⟨.k k,env,nx,h,ds⟩)
  | .inLoop c=>.v (.go ⟨.k (.code c::.inLoop c::k),env,nx,h,ds⟩)
  | .beginRound=>match cx.ro with
   | some l=>match h.get l with
    | some (.r true fn n e ps a b)=>match cx.dk with
     | false=>Tr.set 64 h l (.r false fn n e ps a b) λh=>.v (.go ⟨.k k,env,nx,h,ds⟩)
     | true=>no 200
    | _=>no 187
   | none=>no 188
  | _=>no 189
 | ⟨.o _ [] k,env,nx,h,ds⟩=>.v (.go ⟨.k k,env,nx,h,ds⟩)
 | ⟨.o l (o::rest) k,env,nx,h,ds⟩=>match opS T F E run cx o l rest k env nx h ds with
  | .e n none=>.e n (some o)
  | r=>r
def it(cx:Cx)
 | 0,s=>step T F E run cx s
 | n+1,s=>match it cx n s with
  | .v (.go s)=>it cx n s
  | r=>r
end fr
def runN(T:Tr TI)(F:Tr Func)(E:ET)(m:Nat):Nat->Cx->FZ->(V->Nat->Tr Ob->X S1)->X S1
 | 0,_,_,_=>no 190
 | d+1,cx,s,k=>match it T F E (runN T F E m d) cx m s with
  | .v (.fin v nx h)=>k v nx h
  | .v (.go _)=>no 191
  | .e n o=>.e n o
def fTI{β}(i:TI)(k:TI->β):β:=match i with
 | ⟨.st f,s,z,ez,e,eg,g,fk,fq,eb,pe⟩=>XS (λx k=>fN x.1 λa=>fN x.2.1 λb=>fN x.2.2 λc=>k (a,b,c)) f λf=>fN s λs=>fV z λz=>fN g λg=>k ⟨.st f,s,z,ez,e,eg,g,fk,fq,eb,pe⟩
 | ⟨.sl t,s,z,ez,e,eg,g,fk,fq,eb,pe⟩=>fN t λt=>fN ez λez=>fV e λe=>fN eg λeg=>fN g λg=>fN eb λeb=>k ⟨.sl t,s,z,ez,e,eg,g,fk,fq,eb,pe⟩
 | ⟨.ar n t,s,z,ez,e,eg,g,fk,fq,eb,pe⟩=>fN n λn=>fN t λt=>fN s λs=>fV z λz=>fN ez λez=>fV e λe=>fN eg λeg=>fN g λg=>k ⟨.ar n t,s,z,ez,e,eg,g,fk,fq,eb,pe⟩
 | ⟨.mp a t,s,z,ez,e,eg,g,fk,fq,eb,pe⟩=>fN a λa=>fN t λt=>fN ez λez=>fV e λe=>fN g λg=>k ⟨.mp a t,s,z,ez,e,eg,g,fk,fq,eb,pe⟩
 | ⟨t,s,z,ez,e,eg,g,fk,fq,eb,pe⟩=>fN s λs=>fV z λz=>fN g λg=>fN pe λpe=>k ⟨t,s,z,ez,e,eg,g,fk,fq,eb,pe⟩
def bld{α}(ok:α->Bool)(l:List α):Nat->Tr α->(Tr α->X S1)->X S1:=List.rec (λ_ t k=>k t) (λa _ h i t k=>match ok a with
 | true=>Tr.set 64 t i a λt=>fN (Nat.succ i) λi=>h i t k
 | false=>fN (Nat.succ i) λi=>h i t k) l
section tt
variable (TT:Tr TypeInfo)
def unT(t:Nat):Option TypeDesc:=match TT.get t with
 | some i=>match i.desc with
  | .named _ u=>match TT.get u with
   | some j=>some j.desc
   | none=>none
  | d=>some d
 | none=>none
def gD:TypeDesc->Nat
 | .struct _=>1
 | .array _ _=>1
 | _=>0
def fsT:List Field->Option (List (Nat×Nat×Nat))
 | []=>some []
 | f::l=>match TT.get f.type with
  | some i=>match unT TT f.type with
   | some d=>match fsT l with
    | some r=>some ((f.offset,gD d,i.size)::r)
    | none=>none
   | none=>none
  | none=>none
def both(e:Nat)(k:TK):Option TK:=match TT.get e with
 | some _=>match unT TT e with
  | some _=>some k
  | none=>none
 | none=>none
def tkT:TypeDesc->Option TK
 | .bool=>some .bool
 | .int k=>some (.int k)
 | .string=>some .str
 | .slice e=>both TT e (.sl e)
 | .array n e=>both TT e (.ar n e)
 | .map k e=>both TT e (.mp k e)
 | .pointer _=>some .pt
 | .func _ _ _=>some .fn
 | .struct f=>match fsT TT f.toList with
  | some l=>some (.st l)
  | none=>none
 | _=>some .ot
def zI(i:TypeInfo):= match i.zero with
 | some z=>match Nat.beq z.cells.size i.size with
  | true=>ofV z
  | false=>undef
 | none=>undef
def tiT(P:uG)(t:Nat):Option TI:=match TT.get t with
 | some i=>match unT TT t with
  | some d=>match tkT TT d with
   | some k=>match TT.get (FJ d)with
    | some j=>match unT TT (FJ d)with
     | some h=>some ⟨k,i.size,zI i,j.size,zI j,gD h,gD d,Go.Abs.BO P t,Go.Abs.jd P t,j.bytes,ptT d⟩
     | none=>none
    | none=>none
   | none=>none
  | none=>none
 | none=>none
end tt
def Hm(P:uG)(TT:Tr TypeInfo):Nat->Nat->Tr TI->(Tr TI->X S1)->X S1
 | 0,_,t,k=>k t
 | n+1,i,t,k=>match tiT TT P i with
  | some a=>fTI a λa=>Tr.set 64 t i a λt=>fN (Nat.succ i) λi=>Hm P TT n i t k
  | none=>fN (Nat.succ i) λi=>Hm P TT n i t k
def fnOf(P:uG)(i:Nat):Option Func:=match P.funcs[i]? with
 | some fn=>match fn.name == "runtime.NumGoroutine" with
  | false=>some fn
  | true=>none
 | none=>none
def main(P:uG)(E:ET)(H:Tr Ob)(f:Nat)(xs:LQ V):=
 bld (λ_=>true) P.types.toList 0 .e λTT=>fN P.types.size λn=>Hm P TT n 0 .e λT=>bld (λf=>!f.name == "runtime.NumGoroutine") P.funcs.toList 0 .e λF =>
  D8 F (runN T F E 40 60) false f xs 1000 H λv nx h=>.v (.fin v nx h)
end Go.CI
namespace Go.CI
section tr
variable {α β:Type}
@[simp] theorem get_e(i):(Tr.e:Tr α).get i=none:=by cases i<;>rfl
theorem QP l x(r:Tr α):(Tr.n l x r).get 0=x:=rfl
def AK l x(r:Tr α) j(h:j % 2=0):(Tr.n l x r).get (j+1)=l.get (j / 2):=by
 show Nat.rec (motive:=λ_=>LX α) (l.get (Nat.div j 2)) (λ_ _=>r.get (Nat.div j 2)) (Nat.mod j 2)=_;have:Nat.mod j 2=0:=h;rw[this];rfl
def AM l x(r:Tr α) j(h:j % 2=1):(Tr.n l x r).get (j+1)=r.get (j / 2):=by
 show Nat.rec (motive:=λ_=>LX α) (l.get (Nat.div j 2)) (λ_ _=>r.get (Nat.div j 2)) (Nat.mod j 2)=_;have:Nat.mod j 2=1:=h;rw[this];rfl
def Upd(t:Tr α)(i:Nat)(a:α)(h:Tr α):= ∀j,h.get j=if j=i then some a else t.get j
def upd_0 l x r(a:α):Upd (.n l x r) 0 a (.n l (some a) r):=λj=>by
 cases j with
 | zero=>simp[QP]
 | succ j =>
  rcases zdh j with h|h
  .rw[AK _ _ _ _ h,AK _ _ _ _ h];simp
  .rw[AM _ _ _ _ h,AM _ _ _ _ h];simp
def upd_E{l l' x r}{a:α}{i}(hi:i % 2=0)(h:Upd l (i / 2) a l'):Upd (.n l x r) (i+1) a (.n l' x r):=λj=>by
 cases j with
 | zero=>simp[QP]
 | succ j =>
  rcases zdh j with H|H
  .rw[AK _ _ _ _ H,AK _ _ _ _ H,h]
   grind
  .rw[AM _ _ _ _ H,AM _ _ _ _ H];have:¬j=i:=λe=>by omega
   grind
def upd_O{l x r b}{a:α}{i}(hi:i % 2=1)(h:Upd r (i / 2) a b):Upd (.n l x r) (i+1) a (.n l x b):=λj=>by
 cases j with
 | zero=>simp[QP]
 | succ j =>
  rcases zdh j with H|H
  .rw[AK _ _ _ _ H,AK _ _ _ _ H];have:¬j=i:=λe=>by omega
   grind
  .rw[AM _ _ _ _ H,AM _ _ _ _ H,h]
   grind
def get_ee(j):(Tr.n .e none .e:Tr α).get j=none:=by
 cases j with
 | zero=>rfl
 | succ j =>
  rcases zdh j with h|h
  .rw[AK _ _ _ _ h];rfl
  .rw[AM _ _ _ _ h];rfl
def QQ{i a}{t:Tr α}(h:Upd (.n .e none .e) i a t):Upd .e i a t:=λj=>by rw[h j,get_ee];rfl
def lF{f}:∀{t i a} {k:Tr α->X β} {r},Tr.set f t i a k=.v r->∃H,k H=.v r/\Upd t i a H:=by
 induction f with
 | zero=>intro t i a k r h;cases h
 | succ f b =>
  intro t i a k r h;cases t with
  | e =>
   cases i with
   | zero=>exact⟨_,h,QQ (upd_0 _ _ _ _)⟩
   | succ i =>
    change Nat.rec (motive:=λ_=>X β) (Tr.set f .e (Nat.div i 2) a λl=>k (.n l none .e)) (λ_ _=>Tr.set f .e (Nat.div i 2) a λr=>k (.n .e none r)) (Nat.mod i 2)=_ at h;rcases zdh i with hi|hi
    .have e:Nat.mod i 2=0:=hi;rw[e]at h;obtain⟨H,h1,h2⟩:=b h;exact⟨_,h1,QQ (upd_E hi h2)⟩
    .have e:Nat.mod i 2=1:=hi;rw[e]at h;obtain⟨H,h1,h2⟩:=b h;exact⟨_,h1,QQ (upd_O hi h2)⟩
  | n l x c =>
   cases i with
   | zero=>exact⟨_,h,upd_0 _ _ _ _⟩
   | succ i =>
    change Nat.rec (motive:=λ_=>X β) (Tr.set f l (Nat.div i 2) a λl=>k (.n l x c)) (λ_ _=>Tr.set f c (Nat.div i 2) a λr=>k (.n l x r)) (Nat.mod i 2)=_ at h;rcases zdh i with hi|hi
    .have e:Nat.mod i 2=0:=hi;rw[e]at h;obtain⟨H,h1,h2⟩:=b h;exact⟨_,h1,upd_E hi h2⟩
    .have e:Nat.mod i 2=1:=hi;rw[e]at h;obtain⟨H,h1,h2⟩:=b h;exact⟨_,h1,upd_O hi h2⟩
end tr
section f
variable {α β γ:Type}
def dI n(k:Nat->β):fN n k=k n:=by cases n<;>rfl
def Ya n(k:Int->β):fI n k=k n:=by
 cases n with
 | ofNat n=>exact dI n λn=>k (.ofNat n)
 | negSucc n=>exact dI n λn=>k (.negSucc n)
def fB_eq b(k:Bool->β):fB b k=k b:=by cases b<;>rfl
def fC_eq v(k:uB->β):fC v k=k v:=by
 unfold fC;split
 .exact Ya _ _
 .exact fB_eq _ _
 .rfl
def cV(l:LQ α):∀i,nth l i=l[i]?:=by
 induction l with
 | nil=>intro i;rfl
 | cons a l h=>intro i;cases i with
  | zero=>rfl
  | succ i=>exact(h i).trans (by simp)
def Hn(n):∀l (k:LQ α->β),SJ n l k=k (l.take n):=by
 induction n with
 | zero=>intro l k;rfl
 | succ n i=>intro l k;cases l with
  | nil=>rfl
  | cons a l=>exact i l _
def Cc(n):∀l (k:LQ α->β),NY n l k=k (l.drop n):=by
 induction n with
 | zero=>intro l k;rfl
 | succ n i=>intro l k;cases l with
  | nil=>rfl
  | cons a l=>exact i l _
def Cd(l m):∀k:LQ α->β,UU l m k=k (l++m):=by
 induction l with
 | nil=>intro k;rfl
 | cons a l i=>intro k;exact i _
def FL{g f}(h:∀a k,g a k=k (f a))(l:LQ α):∀k:LQ γ->β,XS g l k=k (l.map f):=by
 induction l with
 | nil=>intro k;rfl
 | cons a l i=>intro k;exact(h a _).trans (i _)
def rep(z:List α)
 | 0=>[]
 | n+1=>z++rep z n
def SP z(n):∀k:LQ α->β,repK z n k=k (rep z n):=by
 induction n with
 | zero=>intro k;rfl
 | succ n i=>intro k;exact(i _).trans (Cd _ _ _)
def SQ(l:LQ α):∀n (k:Nat->β),lenK l n k=k (n+l.length):=by
 induction l with
 | nil=>intro n k;rfl
 | cons a l i=>intro n k;exact(i _ k).trans (by rw[zap];grind)
def vY new(n):∀l (k:LQ α->β),n<=l.length->K2 new n l k=k (l.take n++new++l.drop (n+new.length)):=by
 induction n with
 | zero=>intro l k _;exact(Cc _ _ _).trans ((Cd _ _ _).trans (by simp))
 | succ n i=>intro l k h;cases l with
  | nil=>simp at h
  | cons a l=>exact(i l _ (by grind)).trans (by grind)
mutual
def Ho:∀(v:V) (k:V->β),fV v k=k v
 | .c v,k=>by unfold fV;exact fC_eq _ _
 | .s l,k=>by unfold fV;exact(FL (f:=id) (λa k=>dI a k) l _).trans (by simp)
 | .a cs,k=>by unfold fV;exact Yb cs _
 | .p _ _,k=>by unfold fV;rfl
 | .l _ _ _ _,k=>by unfold fV;rfl
 | .m _,k=>by unfold fV;rfl
 | .z,k=>by unfold fV;rfl
 | .f _ _,k=>by unfold fV;rfl
 | .y _,k=>by unfold fV;rfl
 | .t _,k=>by unfold fV;rfl
def Yb:∀(v:LQ V) (k:LQ V->β),fVs v k=k v
 | [],k=>by unfold fVs;rfl
 | v::l,k=>by unfold fVs;rw[Ho v,Yb l]
end
end f
section x
variable {β:Type}
def eZ{env x k}{r:β}(h:lE env x k=.v r):∃v,ev env x=some v/\k v=.v r:=by
 cases x with
 | tmp t =>
  change Option.rec (motive:=λ_=>X β) (no 19) (λv=>k v) (env.get t)=_ at h;cases H:env.get t with
  | none=>rw[H]at h;cases h
  | some v=>rw[H]at h;exact⟨v,H,h⟩
 | const v=>exact⟨_,rfl,(Ho _ _).symm.trans h⟩
 | global g=>cases h
 | func f=>exact⟨_,rfl,h⟩
def Evs(env:Tr V):List uH->List V->Prop
 | [],[]=>True
 | x::l,v::m=>ev env x=some v/\Evs env l m
 | _,_=>False
def Ce{env}:∀{l k} {r:β},bZ env l k=.v r->∃vs,Evs env l vs/\k vs=.v r
 | [],k,r,h=>⟨[],trivial,h⟩
 | x::l,k,r,h=>by
  unfold bZ at h;obtain⟨v,h1,h⟩:=eZ h;obtain⟨vs,h2,h⟩:=Ce h;exact⟨v::vs,⟨h1,h2⟩,h⟩
def Hp j n(k:V->X β):ci j n k=k (.c (.int j n)):=Ya _ _
def N2 b(k:V->X β):cb b k=k (.c (.bool b)):=fB_eq _ _
end x
end Go.CI
namespace Go.CI
open Go.RowKit Go.Abs
structure Pl where
 b:Nat
 base:Nat
 ext:Nat
 sz:Nat
abbrev Mp:=Nat->LX Pl
mutual
inductive R (μ:Mp):V->uB->Prop
 | c (v:uB):R μ (.c v) v
 | s (bs:List uA):R μ (.s (bs.map UInt8.toNat)) (.string ⟨⟨bs⟩⟩)
 | p {o:Nat} (off:Nat) {pl:Pl} (h:μ o=some pl):R μ (.p o off) (.pointer (some ⟨pl.b,pl.base+off,none⟩))
 | l {o:Nat} (off n:Nat) (c:Option Nat) (k:Nat) {pl:Pl} (h:μ o=some pl) (hk:n<=k) (hc:c=some k∨(c=none/\off+k*pl.sz=pl.ext)):R μ (.l o off n c) (.slice (some ⟨pl.b,pl.base+off,none⟩) n k)
 | z (b off k:Nat):R μ .z (.slice (some ⟨b,off,none⟩) 0 k)
 | m {o:Nat} {pl:Pl} (h:μ o=some pl):R μ (.m o) (.map (some pl.b))
 | f (g:Nat) {cs:List V} {vs:List uB} (h:Rs μ cs vs):R μ (.f g cs) (.func (.func g) #[] ⟨vs⟩)
 | y {o:Nat} {pl:Pl} (h:μ o=some pl):R μ (.y o) (.func (.yield pl.b) #[] #[])
 | a {cs:List V} {vs:List uB} (h:Rs μ cs vs) (h1:∀u∈vs,u.oneCell'=true):R μ (.a cs) (.agg ⟨vs⟩)
 | t {cs:List V} {vs:List uB} (h:Rs μ cs vs):R μ (.t cs) (.tuple ⟨vs⟩)
inductive Rs (μ:Mp):List V->List uB->Prop
 | nil:Rs μ [] []
 | cons {v:V} {u:uB} {l:List V} {m:List uB} (h:R μ v u) (t:Rs μ l m):Rs μ (v::l) (u::m)
end
def Le(μ μ':Mp):= ∀o pl,μ o=some pl->μ' o=some pl
def Le.refl(μ):Le μ μ:=λ_ _ h=>h
def Le.trans{a b c}(h:Le a b)(k:Le b c):Le a c:=λo pl e=>k o pl (h o pl e)
mutual
def R.mono{μ μ':Mp}(e:Le μ μ'):∀{v:V} {u:uB},R μ v u->R μ' v u
 | _,_,.c v=>.c v
 | _,_,.s bs=>.s bs
 | _,_,.p off h=>.p off (e _ _ h)
 | _,_,.l off n c k h hk H=>.l off n c k (e _ _ h) hk H
 | _,_,.z b off k=>.z b off k
 | _,_,.m h=>.m (e _ _ h)
 | _,_,.f g h=>.f g (h.mono e)
 | _,_,.y h=>.y (e _ _ h)
 | _,_,.a h h1=>.a (h.mono e) h1
 | _,_,.t h=>.t (h.mono e)
def Rs.mono{μ μ':Mp}(e:Le μ μ'):∀{v:LQ V} {u:LQ uB},Rs μ v u->Rs μ' v u
 | _,_,.nil=>.nil
 | _,_,.cons h t=>.cons (h.mono e) (t.mono e)
end
section rs
variable {μ:Mp}
def Rs.len:∀{l m},Rs μ l m->l.length=m.length
 | _,_,.nil=>rfl
 | _,_,.cons _ t=>by simp[t.len]
def Rs.append:∀{l m l' H},Rs μ l m->Rs μ l' H->Rs μ (l++l') (m++H)
 | _,_,_,_,.nil,k=>k
 | _,_,_,_,.cons h t,k=>.cons h (t.append k)
def Rs.take:∀n {l m},Rs μ l m->Rs μ (l.take n) (m.take n)
 | 0,_,_,_=>by simp;exact .nil
 | n+1,_,_,.nil=>by simp;exact .nil
 | n+1,_,_,.cons h t=>by simp;exact .cons h (t.take n)
def Rs.drop:∀n {l m},Rs μ l m->Rs μ (l.drop n) (m.drop n)
 | 0,_,_,h=>h
 | n+1,_,_,.nil=>by simp;exact .nil
 | n+1,_,_,.cons h t=>t.drop n
def Rs.get:∀{l m},Rs μ l m->∀{i:Nat} {v},l[i]?=some v->∃u,m[i]?=some u/\R μ v u
 | _,_,.nil,_,_,h=>by simp at h
 | _,_,.cons h t,i,v,e=>by
  cases i with
  | zero=>simp_all
  | succ i=>simp at e;simpa using t.get e
def Rs.rep{z H}(h:Rs μ z H):∀n,Rs μ (CI.rep z n) (CI.rep H n)
 | 0=>.nil
 | n+1=>h.append (h.rep n)
end rs
def ER(μ:Mp)(env:Tr V)(tmps:uD uB):= ∀t v,env.get t=some v->∃u,tmps[t]?=some u/\R μ v u
def ER.mono{μ μ' env tmps}(h:ER μ env tmps)(e:Le μ μ'):ER μ' env tmps:=λt v k=>let⟨u,a,b⟩:=h t v k;⟨u,a,b.mono e⟩
inductive RM (μ:Mp):List (V×Nat×V)->List MapEntry->Prop
 | nil:RM μ [] []
 | cons {k v:V} {b:Nat} {e:MapEntry} {l:List (V×Nat×V)} {m:List MapEntry} (h1:R μ k e.key) (h2:R μ v e.val) (h3:e.born=b) (t:RM μ l m):RM μ ((k,b,v)::l) (e::m)
def RM.mono{μ μ'}(e:Le μ μ'):∀{l m},RM μ l m->RM μ' l m
 | _,_,.nil=>.nil
 | _,_,.cons h1 h2 h3 t=>.cons (h1.mono e) (h2.mono e) h3 (t.mono e)
def Row(μ:Mp)(pl:Pl)(w:uC)(ty:Nat)(cs:LQ V):=
 ∃(fz:Nat×Nat) (pre vs post:LQ uB),w.heap[pl.b]?=some (.cells ⟨pre++(vs++post)⟩ ty fz)/\(fz.2<=fz.1∨pl.base+pl.ext<=fz.1)/\pre.length=pl.base/\vs.length+post.length=pl.ext/\Rs μ cs vs/\∀u∈vs,u.oneCell'=true
def LG(μ:Mp)(pl:Pl)(w:uC):Ob->Prop
 | .c ty sz cs=>pl.sz=sz/\pl.base=0/\Row μ pl w ty cs
 | .k cs=>∃ty,Row μ pl w ty cs
 | .m es ck=>∃h,w.heap[pl.b]?=some (.map ⟨h⟩ ck)/\RM μ es h/\pl.base=0
 | .i s pos=>pl.base=0/\∃bs:List uA,s=bs.map UInt8.toNat/\w.heap[pl.b]?=some (.stringIter ⟨⟨bs⟩⟩ pos)
 | .r b fn n env ps a H=>∃lp,w.heap[pl.b]?=some (.loop lp)/\n<=lp.tmps.size/\lp.state=(if b then .ready else .busy)/\lp.pending=none/\lp.fn=fn/\lp.params=⟨ps⟩/\lp.assign=a/\lp.body=H/\ER μ env lp.tmps
 | .d=>w.heap[pl.b]?=some (.deferred (some []))
 | .g=>True
def live:Ob->Bool
 | .g=>false
 | .k _=>false
 | _=>true
def LG.mono{μ μ' pl w w'}(e:Le μ μ')(H:w'.heap[pl.b]?=w.heap[pl.b]?):∀{x},LG μ pl w x->LG μ' pl w' x
 | .c ty sz cs,⟨h,j,fz,pre,vs,post,h1,h0,h2,h3,h4,f⟩=>⟨h,j,fz,pre,vs,post,H.trans h1,h0,h2,h3,h4.mono e,f⟩
 | .k cs,⟨ty,fz,pre,vs,post,h1,h0,h2,h3,h4,f⟩=>⟨ty,fz,pre,vs,post,H.trans h1,h0,h2,h3,h4.mono e,f⟩
 | .m es ck,⟨ms,h1,h2,h3⟩=>⟨ms,H.trans h1,h2.mono e,h3⟩
 | .i s pos,⟨h,bs,h1,h2⟩=>⟨h,bs,h1,H.trans h2⟩
 | .r b fn n env ps a p,⟨lp,h1,h0,h2,h3,h4,f,j,l,o⟩=>⟨lp,H.trans h1,h0,h2,h3,h4,f,j,l,o.mono e⟩
 | .d,h=>H.trans h
 | .g,_=>trivial
abbrev Hf:=Nat->LX Ob
structure HR(μ:Mp)(B:Nat)(h:Hf)(w:uC):Prop where
 size:B<=w.heap.size
 ob:∀o x,h o=some x->∃pl,μ o=some pl/\LG μ pl w x
 low:∀o x pl,h o=some x->live x=true->μ o=some pl->B<=pl.b/\pl.b<w.heap.size
 Wg:∀o cs pl,h o=some (.k cs)->μ o=some pl->pl.b<B
 sep:∀o o' x x' pl pl',o≠o'->h o=some x->h o'=some x'->live x=true->live x'=true->μ o=some pl->μ o'=some pl'->pl.b≠pl'.b
def Own(μ:Mp)(h:Hf)(b:Nat):= ∃o x pl,h o=some x/\live x=true/\μ o=some pl/\pl.b=b
structure Ev(μ:Mp)(h:Hf)(w:uC)(μ':Mp)(h':Hf)(w':uC)(n n':Nat):Prop where
 le:Le μ μ'
 new:∀o,μ o=none->μ' o≠none->n<=o/\o<n'
 os:w'.os=w.os
 tape:w'.tape=w.tape
 output:w'.output=w.output
 size:w.heap.size<=w'.heap.size
 frame:∀b,b<w.heap.size->¬Own μ h b->w'.heap[b]?=w.heap[b]?
 fresh:∀b,b<w.heap.size->Own μ' h' b->Own μ h b
 nn:n<=n'
 Dw:∀o,h o≠none->h' o≠none
def Ev.refl(μ) h w(n):Ev μ h w μ h w n n:=
 ⟨.refl _,λo h k=>absurd h k,rfl,rfl,rfl,zag _,λ_ _ _=>rfl,λ_ _ h=>h,zag _,λ_ h=>h⟩
def Ev.trans{μ1 μ2 μ3 h1 h2 h3 w d f a b c}(p:Ev μ1 h1 w μ2 h2 d a b)(q:Ev μ2 h2 d μ3 h3 f b c):Ev μ1 h1 w μ3 h3 f a c:=by
 refine⟨p.le.trans q.le,λo e k=>?_,q.os.trans p.os,q.tape.trans p.tape,q.output.trans p.output,zci p.size q.size,λx hx hn=>?_,λx hx H=>?_,zci p.nn q.nn,λo h=>q.Dw o (p.Dw o h)⟩
 .have:=p.nn;have:=q.nn;cases g:μ2 o with
  | none=>have:=q.new o g k;omega
  | some pl=>have:=p.new o e (by rw[g];simp);omega
 .rw[q.frame x (zaz hx p.size) λH=>hn (p.fresh x hx H),p.frame x hx hn]
 .exact p.fresh x hx (q.fresh x (zaz hx p.size) H)
def Ev.below{μ μ' h h' w w' n H B}(e:Ev μ h w μ' h' w' n H)(k:HR μ B h w):Below B w w':=
 ⟨e.os,e.tape,e.output,e.size,λb a=>e.frame b (zaz a k.size) λ⟨o,x,pl,h1,h2,h3,h4⟩=>by have:=(k.low o x pl h1 h2 h3).1;omega⟩
def HR.xn{μ B h h' w w' o x x' pl n}(k:HR μ B h w)(hx:h o=some x)(hl:live x=true)(a:μ o=some pl)
  (d:∀j,h' j=if j=o then some x' else h j) (K:∀cs,x'≠.k cs) (hs:w'.heap.size=w.heap.size) (i:∀b,b≠pl.b->w'.heap[b]?=w.heap[b]?) (J:w'.os=w.os) (l:w'.tape=w.tape) (m:w'.output=w.output)
  (z:LG μ pl w' x'):HR μ B h' w'/\Ev μ h w μ h' w' n n:=by
 have r:=k.low o x pl hx hl a;refine⟨⟨by rw[hs];omega,λj y H=>?_,λj y q H hy c=>?_,λj cs q H c=>?_,λj f y s q u p H t hy F c L=>?_⟩,
  .refl _,λo h k=>absurd h k,J,l,m,zex hs.symm,λb v hn=>i b λe=>hn ⟨o,x,pl,hx,hl,a,e.symm⟩,λb v ⟨j,y,q,h1,h2,h3,h4⟩=>?_,zag _,λj H=>by rw[d];split<;>simp_all⟩
 .rw[d]at H;by_cases e:j=o
  .rw[zab e]at H;simp_all
  .rw[zaa e]at H;obtain⟨q,h1,h2⟩:=k.ob j y H;refine⟨q,h1,?_⟩;cases hy:live y with
   | true=>exact h2.mono (.refl _) (i _ (k.sep j o y x q pl e H hx hy hl h1 a))
   | false =>
    cases y with
    | g=>trivial
    | k cs=>exact h2.mono (.refl _) (i _ (by have:=k.Wg j cs q H h1;omega))
    | _=>cases hy
 .rw[d]at H;rw[hs];by_cases e:j=o
  .simp_all
  .rw[zaa e]at H;exact k.low j y q H hy c
 .rw[d]at H;by_cases e:j=o
  .rw[zab e]at H;simp_all
  .rw[zaa e]at H;exact k.Wg j cs q H c
 .rw[d]at H t;by_cases e:j=o
  .by_cases e':f=o
   .omega
   .rw[zaa e']at t;subst e;rw[a]at c;cases c;exact k.sep j f x s pl u p hx t hl F a L
  .rw[zaa e]at H;by_cases e':f=o
   .subst e';rw[a]at L;cases L;exact k.sep j f y x q pl p H hx hy hl c a
   .rw[zaa e']at t;exact k.sep j f y s q u p H t hy F c L
 .rw[d]at h1;by_cases e:j=o
  .subst e;rw[a]at h3;cases h3;exact⟨j,x,pl,hx,hl,a,h4⟩
  .rw[zaa e]at h1;exact⟨j,y,q,h1,h2,h3,h4⟩
def Mp.add(μ:Mp)(o:Nat)(pl:Pl):Mp:=λj=>if j=o then some pl else μ j
def Mp.Hq{μ o pl}(h:μ o=none):Le μ (μ.add o pl):=λj q e=>by
 unfold Mp.add
 grind
def Mp.add_same{μ:Mp}{o pl}:μ.add o pl o=some pl:=by simp[Mp.add]
def HR.make{μ B h h' w w' o x pl}(k:HR μ B h w)(z:μ o=none)(f:∀j,h' j=if j=o then some x else h j)(K:∀cs,x≠.k cs)
  (hs:w.heap.size<=w'.heap.size) (hn:pl.b=w.heap.size) (A:pl.b<w'.heap.size) (n:∀b,b<w.heap.size->w'.heap[b]?=w.heap[b]?) (J:w'.os=w.os) (p:w'.tape=w.tape) (r:w'.output=w.output)
  (C:LG (μ.add o pl) pl w' x):HR (μ.add o pl) B h' w'/\Ev μ h w (μ.add o pl) h' w' o (o+1):=by
 have c:=Mp.Hq (pl:=pl) z;have hold:∀j y,h j=some y->∃q,μ j=some q/\LG μ q w y:=k.ob;have E:∀j y,h j=some y->j≠o:=λj y H e=>by grind
 have a:∀j q,j≠o->(μ.add o pl) j=some q->μ j=some q:=λj q e a=>by unfold Mp.add at a;rw[zaa e]at a;exact a
 refine⟨⟨zci k.size hs,λj y H=>?_,λj y q H hy L=>?_,λj cs q H L=>?_,λj i y s q l D H t hy F d m=>?_⟩,
  c,λj G u=>?_,J,p,r,hs,λb v _=>n b v,λb v ⟨j,y,q,h1,h2,h3,h4⟩=>?_,zek _,λj H=>by rw[f];split<;>simp_all⟩
 .rw[f]at H;by_cases e:j=o
  .rw[zab e]at H;cases H;subst e;exact⟨pl,Mp.add_same,C⟩
  .rw[zaa e]at H;obtain⟨q,h1,h2⟩:=k.ob j y H;refine⟨q,c _ _ h1,?_⟩;cases hy:live y with
   | true=>exact h2.mono c (n _ (k.low j y q H hy h1).2)
   | false =>
    cases y with
    | g=>trivial
    | k cs=>exact h2.mono c (n _ (by have:=k.Wg j cs q H h1;have:=k.size;omega))
    | _=>cases hy
 .rw[f]at H;by_cases e:j=o
  .subst e;rw[Mp.add_same]at L;cases L;exact⟨by have:=k.size;omega,A⟩
  .rw[zaa e]at H;have:=k.low j y q H hy (a j q e L);omega
 .rw[f]at H;by_cases e:j=o
  .rw[zab e]at H;simp_all
  .rw[zaa e]at H;exact k.Wg j cs q H (a j q e L)
 .rw[f]at H t;by_cases e:j=o
  .by_cases e':i=o
   .omega
   .rw[zaa e']at t;subst e;rw[Mp.add_same]at d;cases d;have:=(k.low i s l t F (a i l e' m)).2;omega
  .rw[zaa e]at H;by_cases e':i=o
   .subst e';rw[Mp.add_same]at m;cases m;have:=(k.low j y q H hy (a j q e d)).2;omega
   .rw[zaa e']at t;exact k.sep j i y s q l D H t hy F (a j q e d) (a i l e' m)
 .by_cases e:j=o
  .omega
  .unfold Mp.add at u;rw[zaa e]at u;simp_all
 .rw[f]at h1;by_cases e:j=o
  .subst e;rw[Mp.add_same]at h3;simp_all
  .rw[zaa e]at h1;exact⟨j,y,q,h1,h2,a j q e h3,h4⟩
end Go.CI
namespace Go.CI
open Go.RowKit
open Go.Abs
def qn(P:uG)(T:Tr TI):= ∀t i,T.get t=some i->XT P t=some i
def ti{P T}(hT:qn P T){t i}(h:T.get t=some i):
  ∃inf d,P.info? t=some inf/\P.underlying t=some d/\i=⟨lD P d,inf.size,QI P t,rn P (FJ d),QI P (FJ d),QH P (FJ d),QH P t,BO P t,Go.Abs.jd P t,LA P (FJ d),ptT d⟩:=by
 have:=hT t i h;unfold XT at this
 grind
def QR(μ):∀cs:LQ uB,Rs μ (ofVs cs) cs
 | []=>.nil
 | v::l=>by
  cases v with
  | string s=>exact .cons (.s s.data.toList) (QR μ l)
  | _=>exact .cons (.c _) (QR μ l)
def N3:∀{l},ones l=true->∀u∈l,u.oneCell'=true
 | [],_,u,h=>by cases h
 | v::l,h,u,H=>by
  unfold ones at h;split at h
  .rename_i hv;rcases zao.1 H with rfl|H
   .exact hv
   .exact N3 h u H
  .cases h
def Hr(μ)(z):R μ (ofV z) z:=by
 unfold ofV;split
 .rename_i s;exact .s s.data.toList
 .split
  .rename_i h;exact .a (QR μ _) (N3 h)
  .exact .c _
 .exact .f _ .nil
 .exact .c _
def eT{μ env tmps}(h:ER μ env tmps){x v}(hx:ev env x=some v):R μ v (Act.eval ⟨tmps,[]⟩ x):=by
 cases x with
 | tmp t =>
  obtain⟨u,h1,h2⟩:=h t v hx;have:Act.eval ⟨tmps,[]⟩ (.tmp t)=u:=by show tmps.getD t Go.undef=u;rw[zba,h1];rfl
  rw[this];exact h2
 | const z=>cases hx;exact Hr μ z
 | global g=>cases hx
 | func f=>cases hx;exact .f f .nil
def Cg{μ env tmps}(h:ER μ env tmps):∀{l vs},Evs env l vs->Rs μ vs (l.map (Act.eval ⟨tmps,[]⟩))
 | [],[],_=>.nil
 | x::l,v::vs,⟨h1,h2⟩=>.cons (eT h h1) (Cg h h2)
def UZ{v:uB}(h:v.oneCell'=true):v.cells=#[v]:=by cases v<;>first|rfl|cases h
def tL{μ v cs u}(h:cells v=some cs)(H:R μ v u):Rs μ cs u.cells.toList/\∀x∈u.cells.toList,x.oneCell'=true:=by
 have one:∀(b:u.oneCell'=true) (d:cs=[v]),Rs μ cs u.cells.toList/\∀x∈u.cells.toList,x.oneCell'=true:=λb d=>by
  subst d;rw[UZ b];exact⟨.cons H .nil,λx hx=>by simp_all⟩
 cases H with
 | c v =>
  unfold cells at h
  grind
 | a h1 h2=>cases h;exact⟨h1,h2⟩
 | t=>cases h
 | s=>cases h;exact one rfl rfl
 | p=>cases h;exact one rfl rfl
 | l=>cases h;exact one rfl rfl
 | z=>cases h;exact one rfl rfl
 | m=>cases h;exact one rfl rfl
 | f=>cases h;exact one rfl rfl
 | y=>cases h;exact one rfl rfl
def N4{P t}(hn:∀l,QI P t≠.t l):∃inf z,P.info? t=some inf/\inf.zero=some z/\QI P t=ofV z/\z.cells.size=inf.size:=by
 unfold QI at hn ⊢;split
 .rename_i i hi;split
  .rename_i z h;split
   .simp_all
   .rename_i H;simp only[hi,h,H]at hn;exact absurd rfl (hn [])
  .rename_i h;simp only[hi,h]at hn;exact absurd rfl (hn [])
 .rename_i hi;simp only[hi]at hn;exact absurd rfl (hn [])
def Ch{P t cs}(h:cells (QI P t)=some cs):∃inf z,P.info? t=some inf/\inf.zero=some z/\QI P t=ofV z/\z.cells.size=inf.size:=
 N4 λl e=>by rw[e]at h;cases h
def PS(P:uG)(μ:Mp)(s:Sem Next)(v:V):= ∃u,(∀w,s.run P w=.ok (.value u) w)/\R μ v u
section pure
variable {P:uG}{T:Tr TI}{r:S1}{μ:Mp}{env:Tr V}{tmps:uD uB}
def LJ(P:uG)(env:Tr V)(o:Op)(v:V):=
 ∀μ tmps (d) (ty:Nat) (pos) (a) (g),ER μ env tmps->PS P μ (execOp (Act.eval ⟨tmps,[]⟩) ⟨d,o,ty,pos,a,g⟩) v
def SR{x k}(h:lE env x k=.v r):∃v,k v=.v r/\LJ P env (.move x) v/\LJ P env (.assign x) v:=by
 obtain⟨v,h1,h⟩:=eZ h;exact⟨v,h,λμ tmps d ty pos a g H=>⟨_,λw=>rfl,eT H h1⟩,λμ tmps d ty pos a g H=>⟨_,λw=>rfl,eT H h1⟩⟩
def R.bool{b u}(h:R μ (.c (.bool b)) u):u=.bool b:=by cases h;rfl
def R.int{j n u}(h:R μ (.c (.int j n)) u):u=.int j n:=by cases h;rfl
def pu_pick{c a b k}(h:(lE env c λc=>XW env c a b k)=.v r):∃v,k v=.v r/\LJ P env (.pick c a b) v:=by
 obtain⟨v,h1,h⟩:=eZ h;unfold XW at h;split at h
 .obtain⟨x,h2,h⟩:=eZ h;refine⟨x,h,λμ tmps d ty pos e g H=>⟨_,λw=>?_,eT H h2⟩⟩;simp[execOp,(eT H h1).bool,asBool]
 .obtain⟨x,h2,h⟩:=eZ h;refine⟨x,h,λμ tmps d ty pos e g H=>⟨_,λw=>?_,eT H h2⟩⟩;simp[execOp,(eT H h1).bool,asBool]
 .cases h
def pu_nil{x k}(h:(lE env x λx=>oNil x k)=.v r):∃v,k v=.v r/\LJ P env (.nilCheck x) v:=by
 obtain⟨v,h1,h⟩:=eZ h;have hk:k v=.v r:=by unfold oNil at h;split at h<;>first|exact h|cases h
 refine⟨v,hk,λμ tmps d ty pos c g H=>⟨Act.eval ⟨tmps,[]⟩ x,λw=>?_,eT H h1⟩⟩;have a:=eT H h1;unfold oNil at h;split at h
 .generalize b:Act.eval ⟨tmps,[]⟩ x=u at a;cases a;simp[execOp,b]
 .cases h
def pu_ext{x i k}(h:(lE env x λx=>oExt x i k)=.v r):∃v,k v=.v r/\LJ P env (.extract x i) v:=by
 obtain⟨v,h1,h⟩:=eZ h;unfold oExt at h;split at h
 .rename_i cs;rw[cV]at h;split at h
  .rename_i c a;refine⟨c,h,λμ tmps d ty pos j g b=>?_⟩;have H:=eT b h1;generalize e:Act.eval ⟨tmps,[]⟩ x=u at H;cases H with
   | t hs =>
    obtain⟨y,hy,f⟩:=hs.get a;refine⟨y,λw=>?_,f⟩;simp[execOp,e,Instr.extract,hy]
  .cases h
 .cases h
def pu_func{f H cs}{k:V->X S1}(a:H.toList=[])(h:(bZ env cs.toList λcs=>k (.f f cs))=.v r):∃v,k v=.v r/\LJ P env (.makeFunc (.func f) H cs) v:=by
 obtain⟨vs,h1,h⟩:=Ce h;refine⟨_,h,λμ tmps d ty pos c g b=>⟨_,λw=>rfl,?_⟩⟩;obtain⟨H⟩:=H;simp at a;subst a;obtain⟨cs⟩:=cs;simp only[zed,zel];exact .f f (Cg b h1)
def un_v{op x k}(h:un op x k=.v r):∃v,k v=.v r/\∀μ u,R μ x u->∃z,(∀w,(Op.unary op u).run P w=.ok z w)/\R μ v z:=by
 unfold un at h;split at h
 .split at h
  .rw[N2]at h;exact⟨_,h,λμ u H=>by cases H;exact⟨_,λw=>rfl,.c _⟩⟩
  .cases h
 .split at h
  .rw[Hp]at h;exact⟨_,h,λμ u H=>by cases H;exact⟨_,λw=>rfl,.c _⟩⟩
  .cases h
 .cases h
def pu_un{op}{t:Nat}{x k}(h:(lE env x λx=>un op x k)=.v r):∃v,k v=.v r/\LJ P env (.unOp op t x) v:=by
 obtain⟨v,h1,h⟩:=eZ h;obtain⟨z,h2,h3⟩:=un_v (P:=P) h;refine⟨z,h2,λμ tmps d ty pos c g H=>?_⟩;obtain⟨u,a,b⟩:=h3 μ _ (eT H h1);exact⟨u,λw=>by simp[execOp,a w],b⟩
def binI_v{op j H}{t:Nat}{a b k}(e:j=H∨op=.shl∨op=.shr)(h:UW op j a b k=.v r):∃v,k v=.v r/\∀μ,∃z,(∀w,(binOp op t (.int j a) (.int H b)).run P w=.ok z w)/\R μ v z:=by
 have hk:(op≠.shl/\op≠.shr->j=H):=λh=>by rcases e with h1|h1|h1<;>simp_all
 cases op<;>simp only[UW]at h
 case shl =>
  split at h
  .cases h
  .rename_i d;rw[Hp]at h;exact⟨_,h,λμ=>⟨_,λw=>by simp only[binOp,Op.shift];rw[zaa (by simp_all)];rfl,.c _⟩⟩
 case shr =>
  split at h
  .cases h
  .rename_i d;rw[Hp]at h;exact⟨_,h,λμ=>⟨_,λw=>by simp only[binOp,Op.shift];rw[zaa (by simp_all)];rfl,.c _⟩⟩
 case quo =>
  have:=hk (by simp);subst this;split at h
  .cases h
  .rename_i d;rw[Hp]at h;exact⟨_,h,λμ=>⟨_,λw=>by simp only[binOp,Op.intDiv];rw[zaa (by simp),zaa (by simp_all)];rfl,.c _⟩⟩
 case rem =>
  have:=hk (by simp);subst this;split at h
  .cases h
  .rename_i d;rw[Hp]at h;exact⟨_,h,λμ=>⟨_,λw=>by simp only[binOp,Op.intDiv];rw[zaa (by simp),zaa (by simp_all)];rfl,.c _⟩⟩
 all_goals
  have:=hk (by simp);subst this
  first
  | (rw[Hp]at h;exact⟨_,h,λμ=>⟨_,λw=>by simp only[binOp,Op.intArith,Op.intBits];rw[zaa (by simp)];rfl,.c _⟩⟩)
  | (rw[N2]at h;exact⟨_,h,λμ=>⟨_,λw=>by simp[binOp,Op.intCmp];try rfl,.c _⟩⟩)
end pure
def Hs:∀{a b:LQ uA},XU (a.map UInt8.toNat) (b.map UInt8.toNat)=(a==b)
 | [],[]=>rfl
 | [],_::_=>rfl
 | _::_,[]=>rfl
 | x::a,y::b=>by
  have i:=Hs (a:=a) (b:=b);simp only[zbb,XU];cases h:Nat.beq x.toNat y.toNat with
  | true =>
   have:=zet.1 (zai h);simp_all
  | false =>
   have:¬x=y:=λe=>by simp_all
   simp_all
def Yc:∀{a b},ltL (a.map UInt8.toNat) (b.map UInt8.toNat)=Op.bytesLess a b
 | [],[]=>rfl
 | [],_::_=>rfl
 | _::_,[]=>rfl
 | x::a,y::b=>by
  have i:=Yc (a:=a) (b:=b);simp only[zbb,ltL,Op.bytesLess];cases h1:Nat.ble (x.toNat+1) y.toNat with
  | true =>
   have:x<y:=zde.2 (zae h1)
   grind
  | false =>
   have hn:¬x<y:=λe=>by
    have:=zde.1 e;rw[zfy this]at h1;cases h1
   cases h:Nat.beq x.toNat y.toNat with
   | true =>
    have:=zet.1 (zai h);simp_all
   | false =>
    have:¬x=y:=λe=>by simp_all
    simp_all
section pure
variable {P:uG}{T:Tr TI}{r:S1}{μ:Mp}{env:Tr V}{tmps:uD uB}
def U0(P:uG)(op:BinOp)(t:Nat)(x y v:V):=
 ∀μ u z (X Y),R μ x u->R μ y z->∃q,(∀w,(do eqGuard op t X Y u z;binOp op t u z:Sem uB).run P w=.ok q w)/\R μ v q
def sM{op}{t:Nat}{X Y u z}(h1:¬(u=.nilIface/\z=.nilIface))(h2:∀a b,¬(u=.agg a/\z=.agg b))(w):(eqGuard op t X Y u z).run P w=.ok () w:=by
 unfold eqGuard;split<;>simp only[zeq,zfn,zay,zbq,zce]
 .simp_all
 .simp_all
 .rfl
theorem mb(b):(⟨⟨b⟩⟩:ByteArray).toList=b:=by
 simp_all
def binS_v{op t a b k}(h:binS op a b k=.v r):∃v,k v=.v r/\U0 P op t (.s a) (.s b) v:=by
 have e:∀(X Y:uH) (p q:LQ uA) w,(eqGuard op t X Y (.string ⟨⟨p⟩⟩) (.string ⟨⟨q⟩⟩)).run P w=.ok () w:=λX Y p q w=>sM (by simp) (by simp) w
 cases op<;>simp only[binS]at h<;>try (cases h;done)
 case add =>
  split at h
  .rename_i hl;rw[Cd]at h;refine⟨_,h,λμ u z X Y H d=>?_⟩;cases H;cases d;rename_i p q;have hl:=zae hl;simp only[zcb]at hl;refine⟨.string ⟨⟨p++q⟩⟩,λw=>?_,?_⟩
   .have:=run_string_add_sum (P:=P) (w:=w) ⟨p.toArray⟩ ⟨q.toArray⟩ (by simpa[ByteArray.size] using hl);simp only[Sem.run_bind,e,Result.andThen_ok,binOp];exact this.trans (by simp[ByteArray.mk_append_mk])
   .rw[←zcd];exact .s (p++q)
  .cases h
 all_goals
  rw[N2]at h;refine⟨_,h,λμ u z X Y H d=>?_⟩;cases H;cases d;refine⟨_,λw=>by simp only[Sem.run_bind,e,Result.andThen_ok,binOp,Op.stringOp];rfl,?_⟩;simp only[Hs,Yc,mb];exact .c _
def eqC_v{a b q}(h:eqC a b=some q):Go.Abs.V5 a b=q:=by
 unfold eqC at h;split at h
 .cases h;rfl
 .split at h
  .rename_i hk;cases h;have:=zbk hk;subst this;simp only[Go.Abs.V5];rw[zbt];simp
  .cases h
 .cases h
def eq1_v{x y q u z}(h:eq1 x y=some q)(hu:R μ x u)(H:R μ y z):Go.Abs.V5 u z=q:=by
 unfold eq1 at h;split at h
 .cases hu;cases H;exact eqC_v h
 .cases h;cases hu;cases H;simp only[Go.Abs.V5,mb,Hs]
 .cases h
def SS:∀{xs ys us z q},eqs xs ys=some q->Rs μ xs us->Rs μ ys z->jy us z=q
 | [],[],us,z,q,h,hu,H=>by cases hu;cases H;cases h;rfl
 | a::l,b::m,us,z,q,h,hu,H=>by
  cases hu with
  | cons h1 t1 =>
   cases H with
   | cons h2 t2 =>
    unfold eqs at h;cases d:eq1 a b with
    | none=>rw[d]at h;cases h
    | some c =>
     rw[d]at h;have k:=eq1_v d h1 h2;cases c with
     | true =>
      have k2:=SS h t1 t2;simp only[jy,k,k2,zei]
     | false =>
      cases h;simp only[jy,k,Bool.false_and]
def fit1_v{k x u}(h:fit1 k x=true)(hu:R μ x u):mq k u=true:=by
 unfold fit1 at h;split at h
 .cases hu;exact h
 .cases hu;rfl
 .cases hu;rfl
 .cases h
def wz:∀{ks xs us},fits ks xs=true->Rs μ xs us->fitAll ks us=true
 | [],[],us,h,hu=>by cases hu;rfl
 | k::ks,x::xs,us,h,hu=>by
  cases hu with
  | cons h1 t1 =>
   unfold fits at h;split at h
   .rename_i H;simp only[fitAll,fit1_v H h1,wz h t1,Bool.and_self]
   .cases h
def Yd{x a u}(h:Cb .pt x=some a)(hu:R μ x u):a=true/\u=.pointer none∨a=false/\∃p,u=.pointer (some p):=by
 simp only[Cb]at h;split at h
 .cases h;cases hu;simp_all
 .cases h;cases hu;simp_all
 .cases h
def Ye{x e a u}(h:Cb (.sl e) x=some a)(hu:R μ x u):(a=true/\∃n c,u=.slice none n c)∨a=false/\∃p n c,u=.slice (some p) n c:=by
 simp only[Cb]at h;split at h
 .cases h;cases hu;simp_all
 .cases h;cases hu;simp_all
 .cases h;cases hu;simp_all
 .cases h
def Yf{x e f a u}(h:Cb (.mp e f) x=some a)(hu:R μ x u):a=true/\u=.map none∨a=false/\∃p,u=.map (some p):=by
 simp only[Cb]at h;split at h
 .cases h;cases hu;simp_all
 .cases h;cases hu;simp_all
 .cases h
def Yg{x a u}(h:Cb .fn x=some a)(hu:R μ x u):a=true/\u=.nilFunc∨a=false/\∃p q s,u=.func p q s:=by
 simp only[Cb]at h;split at h
 .cases h;cases hu;simp_all
 .cases h;cases hu;simp_all
 .cases h;cases hu;simp_all
 .cases h
structure CmpS(P:uG)(t:Nat)(u z:uB)(c:Bool):Prop where
 run:∀w,(Op.equal t u z).run P w=.ok c w
 g:∀op (X Y:uH) w,(eqGuard op t X Y u z).run P w=.ok () w
 b1:binOp .eql t u z=(do pure (.bool (←Op.equal t u z)))
 b2:binOp .neq t u z=(do pure (.bool (!(←Op.equal t u z))))
def Ci{d}:lD P d=.ot∨d=.bool/\lD P d=.bool∨(∃j,d=.int j/\lD P d=.int j)∨d=.string/\lD P d=.str∨(∃e,d=.slice e/\lD P d=.sl e/\(P.info? e).isSome=true/\(P.underlying e).isSome=true) ∨
  (∃n e,d=.array n e/\lD P d=.ar n e/\(P.info? e).isSome=true/\(P.underlying e).isSome=true)∨(∃k e,d=.map k e/\lD P d=.mp k e/\(P.info? e).isSome=true/\(P.underlying e).isSome=true)∨(∃e,d=.pointer e/\lD P d=.pt)∨(∃p q v,d=.func p q v/\lD P d=.fn) ∨
  ∃F:uD Field,d=.struct F/\lD P d=.st (F.toList.map λf=>(f.offset,QH P f.type,rn P f.type))/\∀f∈F.toList,(P.info? f.type).isSome=true/\(P.underlying f.type).isSome=true:=by
 cases d with
 | bool=>exact .inr (.inl ⟨rfl,rfl⟩)
 | int j=>exact .inr (.inr (.inl ⟨j,rfl,rfl⟩))
 | string=>exact .inr (.inr (.inr (.inl ⟨rfl,rfl⟩)))
 | slice e =>
  simp only[lD]
  grind
 | array n e =>
  simp only[lD]
  grind
 | map n e =>
  simp only[lD]
  grind
 | pointer e=>exact .inr (.inr (.inr (.inr (.inr (.inr (.inr (.inl ⟨e,rfl,rfl⟩)))))))
 | func p q v=>exact .inr (.inr (.inr (.inr (.inr (.inr (.inr (.inr (.inl ⟨p,q,v,rfl,rfl⟩))))))))
 | struct F =>
  simp only[lD]
  grind
 | _=>exact .inl rfl
def ya{d e}(h:lD P d=.sl e):d=.slice e/\∃i u,P.info? e=some i/\P.underlying e=some u:=by
 rcases Ci (P:=P) (d:=d)with e|⟨_,e⟩|⟨_,_,e⟩|⟨_,e⟩|⟨_,h1,e,h2,h3⟩|⟨_,_,_,e,_⟩|⟨_,_,_,e,_⟩|⟨_,_,e⟩|⟨_,_,_,_,e⟩|⟨_,_,e,_⟩<;>rw[e]at h<;>first|(cases h;done)|skip
 cases h;exact⟨h1,let⟨i,hi⟩:=zcy.1 h2;let⟨u,hu⟩:=zcy.1 h3;⟨i,u,hi,hu⟩⟩
def Yh{d n e}(h:lD P d=.ar n e):d=.array n e/\∃i u,P.info? e=some i/\P.underlying e=some u:=by
 rcases Ci (P:=P) (d:=d)with e|⟨_,e⟩|⟨_,_,e⟩|⟨_,e⟩|⟨_,_,e,_⟩|⟨_,_,h1,e,h2,h3⟩|⟨_,_,_,e,_⟩|⟨_,_,e⟩|⟨_,_,_,_,e⟩|⟨_,_,e,_⟩<;>rw[e]at h<;>first|(cases h;done)|skip
 cases h;exact⟨h1,let⟨i,hi⟩:=zcy.1 h2;let⟨u,hu⟩:=zcy.1 h3;⟨i,u,hi,hu⟩⟩
def Yi{d n e}(h:lD P d=.mp n e):d=.map n e/\∃i u,P.info? e=some i/\P.underlying e=some u:=by
 rcases Ci (P:=P) (d:=d)with e|⟨_,e⟩|⟨_,_,e⟩|⟨_,e⟩|⟨_,_,e,_⟩|⟨_,_,_,e,_⟩|⟨_,_,h1,e,h2,h3⟩|⟨_,_,e⟩|⟨_,_,_,_,e⟩|⟨_,_,e,_⟩<;>rw[e]at h<;>first|(cases h;done)|skip
 cases h;exact⟨h1,let⟨i,hi⟩:=zcy.1 h2;let⟨u,hu⟩:=zcy.1 h3;⟨i,u,hi,hu⟩⟩
def tk_pt{d}(h:lD P d=.pt):∃e,d=.pointer e:=by
 rcases Ci (P:=P) (d:=d)with e|⟨_,e⟩|⟨_,_,e⟩|⟨_,e⟩|⟨_,_,e,_⟩|⟨_,_,_,e,_⟩|⟨_,_,_,e,_⟩|⟨_,h1,e⟩|⟨_,_,_,_,e⟩|⟨_,_,e,_⟩<;>rw[e]at h<;>first|(cases h;done)|simp_all
def tk_fn{d}(h:lD P d=.fn):∃p q v,d=.func p q v:=by
 rcases Ci (P:=P) (d:=d)with e|⟨_,e⟩|⟨_,_,e⟩|⟨_,e⟩|⟨_,_,e,_⟩|⟨_,_,_,e,_⟩|⟨_,_,_,e,_⟩|⟨_,_,e⟩|⟨_,_,_,h1,e⟩|⟨_,_,e,_⟩<;>rw[e]at h<;>first|(cases h;done)|simp_all
def LK{d j}(h:lD P d=.int j):d=.int j:=by
 rcases Ci (P:=P) (d:=d)with e|⟨_,e⟩|⟨_,h1,e⟩|⟨_,e⟩|⟨_,_,e,_⟩|⟨_,_,_,e,_⟩|⟨_,_,_,e,_⟩|⟨_,_,e⟩|⟨_,_,_,_,e⟩|⟨_,_,e,_⟩<;>rw[e]at h<;>first|(cases h;done)|simp_all
def AN{d}(h:lD P d=.str):d=.string:=by
 rcases Ci (P:=P) (d:=d)with e|⟨_,e⟩|⟨_,_,e⟩|⟨h1,e⟩|⟨_,_,e,_⟩|⟨_,_,_,e,_⟩|⟨_,_,_,e,_⟩|⟨_,_,e⟩|⟨_,_,_,_,e⟩|⟨_,_,e,_⟩<;>rw[e]at h<;>first|(cases h;done)|exact h1
def tk_bool{d}(h:lD P d=.bool):d=.bool:=by
 rcases Ci (P:=P) (d:=d)with e|⟨h1,e⟩|⟨_,_,e⟩|⟨_,e⟩|⟨_,_,e,_⟩|⟨_,_,_,e,_⟩|⟨_,_,_,e,_⟩|⟨_,_,e⟩|⟨_,_,_,_,e⟩|⟨_,_,e,_⟩<;>rw[e]at h<;>first|(cases h;done)|exact h1
def Yj{d H}(h:lD P d=.st H):∃F:uD Field,d=.struct F/\H=F.toList.map (λf=>(f.offset,QH P f.type,rn P f.type))/\∀f∈F.toList,(P.info? f.type).isSome=true/\(P.underlying f.type).isSome=true:=by
 rcases Ci (P:=P) (d:=d)with e|⟨_,e⟩|⟨_,_,e⟩|⟨_,e⟩|⟨_,_,e,_⟩|⟨_,_,_,e,_⟩|⟨_,_,_,e,_⟩|⟨_,_,e⟩|⟨_,_,_,_,e⟩|⟨F,h1,e,h2⟩<;>rw[e]at h<;>first|(cases h;done)|simp_all
def nil_eq{t i}(hT:qn P T)(hi:T.get t=some i){x y a b u z}(hx:Cb i.k x=some a)(hy:Cb i.k y=some b)(f:a=true∨b=true)(hu:R μ x u)(g:R μ y z):
  CmpS P t u z (a && b):=by
 obtain⟨inf,d,h1,h2,rfl⟩:=ti hT hi;simp only at hx hy;have H:∀c,lD P d=c->Cb c x=some a/\Cb c y=some b:=λc e=>e▸⟨hx,hy⟩
 have j:∀w,(Op.equal t u z).run P w=(Op.equalIn (9999+1) t u z).run P w:=λw=>rfl
 cases hk:lD P d with
 | pt =>
  obtain⟨e,rfl⟩:=tk_pt hk;obtain⟨hx,hy⟩:=H _ hk;rcases Yd hx hu with⟨rfl,rfl⟩|⟨rfl,p,rfl⟩<;>rcases Yd hy g with⟨rfl,rfl⟩|⟨rfl,q,rfl⟩<;>first
   | (rcases f with h|h<;>(cases h;done))
   | exact⟨λw=>by rw[j];unfold Op.equalIn;simp[run_underlying h2],λop X Y w=>sM (by simp) (by simp) w,rfl,rfl⟩
 | sl e =>
  obtain⟨rfl,_⟩:=ya hk;obtain⟨hx,hy⟩:=H _ hk;rcases Ye hx hu with⟨rfl,n,c,rfl⟩|⟨rfl,p,n,c,rfl⟩<;>rcases Ye hy g with⟨rfl,l,m,rfl⟩|⟨rfl,q,l,m,rfl⟩<;>first
   | (rcases f with h|h<;>(cases h;done))
   | exact⟨λw=>by rw[j];unfold Op.equalIn;simp[run_underlying h2],λop X Y w=>sM (by simp) (by simp) w,rfl,rfl⟩
 | mp k e =>
  obtain⟨rfl,_⟩:=Yi hk;obtain⟨hx,hy⟩:=H _ hk;rcases Yf hx hu with⟨rfl,rfl⟩|⟨rfl,p,rfl⟩<;>rcases Yf hy g with⟨rfl,rfl⟩|⟨rfl,q,rfl⟩<;>first
   | (rcases f with h|h<;>(cases h;done))
   | exact⟨λw=>by rw[j];unfold Op.equalIn;simp[run_underlying h2],λop X Y w=>sM (by simp) (by simp) w,rfl,rfl⟩
 | fn =>
  obtain⟨p,q,v,rfl⟩:=tk_fn hk;obtain⟨hx,hy⟩:=H _ hk;rcases Yg hx hu with⟨rfl,rfl⟩|⟨rfl,p,q,s,rfl⟩<;>rcases Yg hy g with⟨rfl,rfl⟩|⟨rfl,p',o,r,rfl⟩<;>first
   | (rcases f with h|h<;>(cases h;done))
   | exact⟨λw=>by rw[j];unfold Op.equalIn;simp[run_underlying h2],λop X Y w=>sM (by simp) (by simp) w,rfl,rfl⟩
 | _=>exfalso;obtain⟨hx,_⟩:=H _ hk;cases hx
def bBool_v{op b k}(h:E0 op b k=.v r):op=.eql/\k (.c (.bool b))=.v r∨op=.neq/\k (.c (.bool !b))=.v r:=by
 unfold E0 at h;split at h
 .rw[N2]at h;simp_all
 .rw[N2]at h;simp_all
 .cases h
def Yk{op t x y b k}(h:E0 op b k=.v r)(hs:∀μ u z,R μ x u->R μ y z->CmpS P t u z b):∃v,k v=.v r/\U0 P op t x y v:=by
 rcases bBool_v h with⟨rfl,h'⟩|⟨rfl,h'⟩
 .refine⟨_,h',λμ u z X Y H a=>⟨.bool b,λw=>?_,.c _⟩⟩;have e:=hs μ u z H a;simp only[Sem.run_bind,e.g,Result.andThen_ok,e.b1,e.run,Sem.run_pure]
 .refine⟨_,h',λμ u z X Y H a=>⟨.bool (!b),λw=>?_,.c _⟩⟩;have e:=hs μ u z H a;simp only[Sem.run_bind,e.g,Result.andThen_ok,e.b2,e.run,Sem.run_pure]
def bNil_v(hT:qn P T){op t x y k}(h:bNil T op t x y k=.v r):∃v,k v=.v r/\U0 P op t x y v:=by
 unfold bNil at h;split at h
 .rename_i i hi;split at h
  .rename_i a hx;split at h
   .rename_i b hy;have main:∀c,(a=true∨b=true)->(a && b)=c->E0 op c k=.v r->∃v,k v=.v r/\U0 P op t x y v:=λc p H h=>by
     subst H;refine Yk h λμ u z d e=>?_
     exact nil_eq (P:=P) hT hi hx hy p d e
    split at h
    .simp_all
    .split at h
     .simp_all
     .cases h
   .cases h
  .cases h
 .cases h
def bin_v(hT:qn P T){op t x y k}(h:bin T op t x y k=.v r):∃v,k v=.v r/\U0 P op t x y v:=by
 unfold bin at h;split at h
 .rename_i j a;split at h
  .rename_i l b;have main:(j=l∨op=.shl∨op=.shr)->UW op j a b k=.v r->∃v,k v=.v r/\U0 P op t (.c (.int j a)) (.c (.int l b)) v:=λn h=>by
    obtain⟨v,h1,h2⟩:=binI_v (P:=P) (t:=t) n h;refine⟨v,h1,λμ u z X Y H f=>?_⟩;cases H;cases f;obtain⟨q,h3,h4⟩:=h2 μ;exact⟨q,λw=>by simp only[Sem.run_bind,sM (P:=P) (op:=op) (t:=t) (X:=X) (Y:=Y) (u:=.int j a) (z:=.int l b) (by simp) (by simp),Result.andThen_ok,h3],h4⟩
   split at h
   .simp_all
   .split at h
    .simp_all
    .simp_all
    .cases h
  .cases h
 .rename_i a;split at h
  .rename_i b;split at h
   .rename_i i hi;split at h
    .rename_i hk;refine Yk h λμ u z H f=>?_
     cases H;cases f;obtain⟨inf,d,h1,h2,rfl⟩:=ti hT hi;have o:=tk_bool hk;subst o;exact⟨λw=>Ae h2 a b 9999 w,λop X Y w=>sM (by simp) (by simp) w,rfl,rfl⟩
    .cases h
   .cases h
  .cases h
 .split at h
  .exact binS_v h
  .cases h
 .rename_i xs;split at h
  .rename_i ys;split at h
   .rename_i b g;unfold eqA at g;split at g
    .rename_i i hi;obtain⟨inf,d,h1,h2,rfl⟩:=ti hT hi;split at g
     .rename_i ks m;split at g
      .rename_i p;split at g
       .rename_i s;refine Yk h λμ u z H f=>?_
        cases H with
        | a H _ =>
         cases f with
         | a f _ =>
          have e:=SS g H f;have key:=λw op X Y=>Nv (P:=P) m (wz p H) (wz s f) w op X Y
          exact⟨λw=>e▸(key w .eql (.const (.bool true)) (.const (.bool true))).2,λop X Y w=>(key w op X Y).1,rfl,rfl⟩
       grind
      grind
     grind
    grind
   .cases h
  .cases h
 .exact bNil_v hT h
def pu_bin(hT:qn P T){op}{t t2:Nat}{x y k}(h:(lE env x λx=>lE env y λy=>bin T op t x y k)=.v r):∃v,k v=.v r/\LJ P env (.binOp op t x y t2) v:=by
 obtain⟨a,h1,h⟩:=eZ h;obtain⟨b,h2,h⟩:=eZ h;obtain⟨v,h3,h4⟩:=bin_v hT h;refine⟨v,h3,λμ tmps d ty pos f g H=>?_⟩;obtain⟨q,c,e⟩:=h4 μ _ _ x y (eT H h1) (eT H h2);exact⟨q,λw=>by simp only[execOp];rw[Sem.run_bind,c];rfl,e⟩
end pure
section pure
variable {P:uG}{T:Tr TI}{r:S1}{μ:Mp}{env:Tr V}{tmps:uD uB}
def SU{t:Nat}{d}(hu:P.underlying t=some d):QH P t=1/\IY (some d)=true∨QH P t=0/\IY (some d)=false:=by
 unfold QH;rw[hu];cases d<;>first|exact .inl ⟨rfl,rfl⟩|exact .inr ⟨rfl,rfl⟩
def rF{t:Nat}{i}(h:P.info? t=some i):rn P t=i.size:=by unfold rn;rw[h]
def Ht{x n u}(h:toN x=some n)(hu:R μ x u):∃j,u=.int j n:=by
 unfold toN at h;split at h
 .cases h;cases hu;simp_all
 .cases h
def mX(b o n):(⟨b,o,none⟩:Addr).add n=⟨b,o+n,none⟩:=by
 unfold Addr.add;simp_all
def U4(hT:qn P T){s f x k}(h:(lE env x λx=>LD T s x f k)=.v r):∃v,k v=.v r/\LJ P env (.fieldAddr s x f) v:=by
 obtain⟨a,h1,h⟩:=eZ h;unfold LD at h;split at h
 .rename_i o off;split at h
  .rename_i i hi;obtain⟨inf,d,D,E,rfl⟩:=ti hT hi;split at h
   .rename_i G hk;rw[cV]at h;split at h
    .rename_i q g sz H;split at h
     rotate_left
     .cases h
     rename_i c;rw[dI]at h;obtain⟨F,rfl,rfl,t⟩:=Yj hk;refine⟨_,h,λμ tmps d ty pos I g y=>?_⟩;have m:=eT y h1;generalize z:Act.eval ⟨tmps,[]⟩ x=u at m;rw[zau]at H;cases e:F.toList[f]? with
     | none=>rw[e]at H;cases H
     | some n =>
      rw[e]at H;simp only[Option.map_some,Option.some.injEq,Prod.mk.injEq]at H;have j:mI P s f=some q:=by
       unfold mI;have A:F[f]?=some n:=by simp_all
       obtain⟨B,l⟩:=zcy.1 (t n (zav e)).1;have J:¬B.size=0:=by
        have:=zae c;rw[←H.2.2,rF l]at this;omega
       simp_all
      cases m with
      | p _ C =>
       rename_i pl;have:=λw=>ox (P:=P) j ⟨pl.b,pl.base+off,none⟩ w
       simp only[mX,zcw]at this;exact⟨_,λw=>by simp only[execOp,z,Sem.run_bind];rw[this w];rfl,.p _ C⟩
    .cases h
   .cases h
  .cases h
 .cases h
def pu_idxA(hT:qn P T){t x y k}(h:(lE env x λx=>lE env y λy=>XX T t x y k)=.v r):∃v,k v=.v r/\LJ P env (.indexAddr t x y) v:=by
 obtain⟨a,h1,h⟩:=eZ h;obtain⟨b,h2,h⟩:=eZ h;unfold XX at h;split at h
 .rename_i j D;split at h
  .rename_i i hi;obtain⟨inf,d,I,E,rfl⟩:=ti hT hi;split at h
   .rename_i o off n c hx;split at h
    .rename_i e hk;split at h
     .rename_i f;have f:=zae f;rw[dI]at h;obtain⟨rfl,ie,F,m,z⟩:=ya hk;refine⟨_,h,λμ tmps d ty pos G g q=>?_⟩;have s:=eT q h1;obtain⟨kk,A⟩:=Ht D (eT q h2);generalize B:Act.eval ⟨tmps,[]⟩ x=u at s;cases s with
      | l _ _ _ kc C Y J =>
       refine⟨_,λw=>?_,.p _ C⟩;have H:(0:Int)<=(j:Int)/\(j:Int)<(n:Int):=by omega
       simp only[execOp,B,A,Instr.indexAt,Sem.run_bind,asIntOf,run_underlying E,Result.andThen_ok,Sem.run_pure,zab H,cM m,mX,zcl,FJ,rF m,zcw]
     .cases h
    .cases h
   .rename_i o off hx;split at h
    .rename_i n e hk;split at h
     .rename_i f;have f:=zae f;rw[dI]at h;obtain⟨rfl,ie,F,m,z⟩:=Yh hk;refine⟨_,h,λμ tmps d ty pos G g q=>?_⟩;have s:=eT q h1;obtain⟨kk,A⟩:=Ht D (eT q h2);generalize B:Act.eval ⟨tmps,[]⟩ x=u at s;cases s with
      | p _ C =>
       refine⟨_,λw=>?_,.p _ C⟩;have H:(0:Int)<=(j:Int)/\(j:Int)<(n:Int):=by omega
       simp only[execOp,B,A,Instr.indexAt,Instr.sureAddr,Sem.run_bind,asIntOf,run_underlying E,Result.andThen_ok,Sem.run_pure,zab H,cM m,mX,zcl,FJ,rF m,zcw]
     .cases h
    .cases h
   .cases h
  .cases h
 .cases h
end pure
end Go.CI
end
