/- Our own texts of this seat. -/
import Derived.Test.YtpdanklncjopoaaYI1
set_option linter.unusedSimpArgs false
set_option linter.unusedVariables false
set_option maxRecDepth 100000
set_option maxHeartbeats 1000000
namespace Go.Proofs.Ytpdanklncjopoaa
open Go.RowKit Go.Abs
structure Event where
 at_:Int
 kind:Int
 aH:Int
 sub:Int
 number:(O uA)
 name:(O uA)
 value:Int
instance:Inhabited Event:=⟨⟨default,default,default,default,default,default,default⟩⟩
def Event.row (x:Event):O D:=[cI x.at_,cI x.kind,cI x.aH,cI x.sub,cS x.number,cS x.name,cI x.value]
structure aw where
 id:Int
 since:Int
 anchor:Int
 ja:Bool
 closed:Bool
 aN:(O Int)
instance:Inhabited aw:=⟨⟨default,default,default,default,default,default⟩⟩
def aw.row (x:aw):O D:=[cI x.id,cI x.since,cI x.anchor,cB x.ja,cB x.closed,ag 1 rI x.aN]
def aw.eQ (x:aw):O D:=[cI x.id,cI x.since,cI x.anchor,cB x.ja,cB x.closed,.e0 1]
structure Sub where
 id:Int
 aH:Int
 since:Int
 qY:(O uA)
 numbers:(O (O uA))
 bY:(O (O uA))
 aV:Bool
 family:Bool
instance:Inhabited Sub:=⟨⟨default,default,default,default,default,default,default,default⟩⟩
def Sub.row (x:Sub):O D:=[cI x.id,cI x.aH,cI x.since,cS x.qY,ag 1 rS x.numbers,ag 1 rS x.bY,cB x.aV,cB x.family]
structure ah where
 au:(O aw)
 aN:(O Sub)
 ended:(O Int)
instance:Inhabited ah:=⟨⟨default,default,default⟩⟩
def ah.row (x:ah):O D:=[ag 6 aw.eQ x.au,ag 8 Sub.row x.aN,ag 1 rI x.ended]
structure aT where
 OV:Int
 key:Int
 left:Int
 right:Int
instance:Inhabited aT:=⟨⟨default,default,default,default⟩⟩
def aT.row (x:aT):O D:=[cI x.OV,cI x.key,cI x.left,cI x.right]
def aT.j6 (x:aT):O uB:=[.int .i64 x.OV,.int .i64 x.key,.int .i64 x.left,.int .i64 x.right]
structure aG where
 id:Int
 kind:Int
 aH:Int
 sub:Int
 a:(O uA)
 b:(O uA)
 start:Int
 aJ:Int
 bh:Int
 aP:Bool
 source:Int
 aF:Int
instance:Inhabited aG:=⟨⟨default,default,default,default,default,default,default,default,default,default,default,default⟩⟩
def aG.row (x:aG):O D:=[cI x.id,cI x.kind,cI x.aH,cI x.sub,cS x.a,cS x.b,cI x.start,cI x.aJ,cI x.bh,cB x.aP,cI x.source,cI x.aF]
def aG.j6 (x:aG):O uB:=[.int .i64 x.id,.int .i64 x.kind,.int .i64 x.aH,.int .i64 x.sub,.string ⟨x.a.toArray⟩,.string ⟨x.b.toArray⟩,.int .i64 x.start,.int .i64 x.aJ,.int .i64 x.bh,.bool x.aP,.int .i64 x.source,.int .i64 x.aF]
structure wZ where
 sub:Int
 Nd:(O uA)
 index:Int
 from_:Int
 aJ:Int
instance:Inhabited wZ:=⟨⟨default,default,default,default,default⟩⟩
def wZ.row (x:wZ):O D:=[cI x.sub,cS x.Nd,cI x.index,cI x.from_,cI x.aJ]
structure jP where
 Vp:(O uA)
 start:Int
 aJ:Int
 ov:Int
instance:Inhabited jP:=⟨⟨default,default,default,default⟩⟩
def jP.row (x:jP):O D:=[cS x.Vp,cI x.start,cI x.aJ,cI x.ov]
structure rF where
 name:(O uA)
 ov:Int
instance:Inhabited rF:=⟨⟨default,default⟩⟩
def rF.row (x:rF):O D:=[cS x.name,cI x.ov]
structure fg where
 aQ:aG
 err:Int
 qY:(O uA)
 version:Int
 KR:(O uA)
 DQ:(O wZ)
 segments:(O jP)
 DR:Int
 DS:Int
 S8:Int
 given:(O rF)
 KS:Int
 Aa:Int
instance:Inhabited fg:=⟨⟨default,default,default,default,default,default,default,default,default,default,default,default,default⟩⟩
def fg.row (x:fg):O D:=[cI x.aQ.id,cI x.aQ.kind,cI x.aQ.aH,cI x.aQ.sub,cS x.aQ.a,cS x.aQ.b,cI x.aQ.start,cI x.aQ.aJ,cI x.aQ.bh,cB x.aQ.aP,cI x.aQ.source,cI x.aQ.aF,cI x.err,cS x.qY,cI x.version,cS x.KR,ag 5 wZ.row x.DQ,ag 4 jP.row x.segments,cI x.DR,cI x.DS,cI x.S8,ag 2 rF.row x.given,cI x.KS,cI x.Aa]
structure pX where
 kind:Int
 sub:Int
 name:(O uA)
 category:(O uA)
 count:Int
 aJ:Int
 ov:Int
 Ho:Int
instance:Inhabited pX:=⟨⟨default,default,default,default,default,default,default,default⟩⟩
def pX.row (x:pX):O D:=[cI x.kind,cI x.sub,cS x.name,cS x.category,cI x.count,cI x.aJ,cI x.ov,cI x.Ho]
structure Range where
 source:Int
 from_:Int
 qZ:Int
instance:Inhabited Range:=⟨⟨default,default,default⟩⟩
def Range.row (x:Range):O D:=[cI x.source,cI x.from_,cI x.qZ]
structure cx where
 read:Int
 accepted:Int
 merged:Int
 rejected:Int
 aV:Int
 open_:Int
instance:Inhabited cx:=⟨⟨default,default,default,default,default,default⟩⟩
def cx.row (x:cx):O D:=[cI x.read,cI x.accepted,cI x.merged,cI x.rejected,cI x.aV,cI x.open_]
structure aa where
 source:Int
 aF:Int
 kind:Int
 a:(O uA)
 b:(O uA)
 start:Int
 aJ:Int
 call:Int
 part:Int
 last:Bool
 bh:Int
 aP:Bool
instance:Inhabited aa:=⟨⟨default,default,default,default,default,default,default,default,default,default,default,default⟩⟩
def aa.row (x:aa):O D:=[cI x.source,cI x.aF,cI x.kind,cS x.a,cS x.b,cI x.start,cI x.aJ,cI x.call,cI x.part,cB x.last,cI x.bh,cB x.aP]
def aa.j6 (x:aa):O uB:=[.int .i64 x.source,.int .i64 x.aF,.int .i64 x.kind,.string ⟨x.a.toArray⟩,.string ⟨x.b.toArray⟩,.int .i64 x.start,.int .i64 x.aJ,.int .i64 x.call,.int .i64 x.part,.bool x.last,.int .i64 x.bh,.bool x.aP]
structure Head where
 source:Int
 number:Int
 format:Int
 count:Int
instance:Inhabited Head:=⟨⟨default,default,default,default⟩⟩
def Head.row (x:Head):O D:=[cI x.source,cI x.number,cI x.format,cI x.count]
def Head.j6 (x:Head):O uB:=[.int .i64 x.source,.int .i64 x.number,.int .i64 x.format,.int .i64 x.count]
structure bE where
 seen:(O Range)
 open_:(O aa)
 aX:(O Head)
instance:Inhabited bE:=⟨⟨default,default,default⟩⟩
def bE.row (x:bE):O D:=[ag 3 Range.row x.seen,ag 12 aa.row x.open_,ag 4 Head.row x.aX]
structure aj where
 source:Int
 aF:Int
 index:Int
 err:Int
instance:Inhabited aj:=⟨⟨default,default,default,default⟩⟩
def aj.row (x:aj):O D:=[cI x.source,cI x.aF,cI x.index,cI x.err]
structure ao where
 ai:bE
 usages:(O aG)
 aI:(O aa)
 bo:(O aj)
instance:Inhabited ao:=⟨⟨default,default,default,default⟩⟩
def ao.row (x:ao):O D:=[ag 3 Range.row x.ai.seen,ag 12 aa.row x.ai.open_,ag 4 Head.row x.ai.aX,ag 12 aG.row x.usages,ag 12 aa.row x.aI,ag 4 aj.row x.bo]
structure Element where
 tag:Int
 value:(O uA)
instance:Inhabited Element:=⟨⟨default,default⟩⟩
def Element.row (x:Element):O D:=[cI x.tag,ag 1 cq x.value]
structure cu where
 count:Int
 aJ:(O Int)
instance:Inhabited cu:=⟨⟨default,default⟩⟩
def cu.row (x:cu):O D:=[cI x.count,cI (nth x.aJ 0),cI (nth x.aJ 1),cI (nth x.aJ 2),cI (nth x.aJ 3),cI (nth x.aJ 4)]
def cu.j6 (x:cu):O uB:=[.int .i64 x.count,.int .i64 (nth x.aJ 0),.int .i64 (nth x.aJ 1),.int .i64 (nth x.aJ 2),.int .i64 (nth x.aJ 3),.int .i64 (nth x.aJ 4)]
structure Batch where
 source:Int
 number:Int
 format:Int
 records:(O aa)
instance:Inhabited Batch:=⟨⟨default,default,default,default⟩⟩
def Batch.row (x:Batch):O D:=[cI x.source,cI x.number,cI x.format,ag 12 aa.row x.records]
structure bJ where
 kt:Int
 ra:Int
instance:Inhabited bJ:=⟨⟨default,default⟩⟩
def bJ.row (x:bJ):O D:=[cI x.kt,cI x.ra]
structure eb where
 au:(O aw)
 aN:(O Sub)
instance:Inhabited eb:=⟨⟨default,default⟩⟩
def eb.row (x:eb):O D:=[ag 6 aw.row x.au,ag 8 Sub.row x.aN]
abbrev mo0 (l:O ((Int)×Int)):fm:=.map (vT (λn=>Value.int .i64 n) (λx=>cI x) l)
abbrev mo1 (l:O ((Int)×aG)):fm:=.map (vT (λn=>Value.int .i64 n) (λx=>.agg (aG.row x)) l)
abbrev kq0:Batch:=(⟨0,0,0,([]:O aa)⟩:Batch)
abbrev kq1:cu:=(⟨0,([0,0,0,0,0]:O Int)⟩:cu)
abbrev kq2:bE:=(⟨([]:O Range),([]:O aa),([]:O Head)⟩:bE)
abbrev kq3:aG:=(⟨0,0,0,0,([]:O uA),([]:O uA),0,0,0,false,0,0⟩:aG)
abbrev kq4:aG:=(⟨0,0,0,2,([]:O uA),([]:O uA),0,0,0,false,0,0⟩:aG)
abbrev kq5:aa:=(⟨0,0,0,([]:O uA),([]:O uA),0,0,0,0,false,0,false⟩:aa)
abbrev kq6:ao:=(⟨(⟨([]:O Range),([]:O aa),([]:O Head)⟩:bE),([]:O aG),([]:O aa),([]:O aj)⟩:ao)
abbrev DT (n:Nat):fZ:=⟨9,1,n,none⟩
abbrev Sub.pY (n:Nat) (l:O Sub):fZ:=⟨138,8,n,some (l.map Sub.row)⟩
abbrev Sub.yx (l:O Sub):fZ:=⟨138,8,l.length,some (l.map Sub.row)⟩
abbrev u5 (n:Nat):fZ:=⟨3,1,n,none⟩
abbrev sn (n:Nat):fZ:=⟨60,4,n,none⟩
abbrev AW (n:Nat):fZ:=⟨5,1,n,none⟩
abbrev dh (n:Nat):fZ:=⟨153,12,n,none⟩
abbrev jb (n:Nat):fZ:=⟨178,4,n,none⟩
abbrev u6 (n:Nat):fZ:=⟨138,8,n,none⟩
abbrev B3 (n:Nat):fZ:=⟨134,6,n,none⟩
abbrev B4 (n:Nat):fZ:=⟨52,12,n,none⟩
def fB (AX:Bool):J (O Bool) :=
 if AX=true then some ([true,false,false,false,true]:O Bool) else some ([false,true,false,false,false]:O Bool)
def eH (cD:Int) (AY:Bool):J (O Bool) :=
 if AY=true then some ([false,true,false,true,false]:O Bool) else if (cD==14)=true then (fB (cD==14)) else fB (cD==15)
def fC (cD:Int) (pg:Bool):J (O Bool) :=
 if pg=true then some ([false,true,true,false,false]:O Bool) else if (cD==7)=true then (eH cD (cD==7)) else if (cD==8)=true then (eH cD (cD==8)) else eH cD (cD==9)
def lO (cD:Int):J (O Bool) :=
 if (cD==1)=true then some ([true,false,false,true,true]:O Bool) else if (cD==2)=true then some ([true,false,false,false,false]:O Bool) else if (cD==3)=true then some ([true,true,false,true,false]:O Bool) else if (cD==5)=true then (fC cD (cD==5)) else fC cD (cD==6)
def sr (m8:Int):J Bool :=
 some ((decide (m8>=1)) && (decide (m8<=9999)))
def jA (bg:O uA) (bx:Int):J (Int ⊕ Bool) :=
 if (decide (bx<(bg.length:Int)))=true then (ck ((0:Int)<=bx/\bx<(bg.length:Int)) (ck ((!(decide ((nth bg bx.toNat)<97)))=true->((0:Int)<=bx/\bx<(bg.length:Int))) (ck (((decide ((nth bg bx.toNat)<97)) || (decide ((nth bg bx.toNat) > 122)))=true->((0:Int)<=bx/\bx<(bg.length:Int))) (ck ((((decide ((nth bg bx.toNat)<97)) || (decide ((nth bg bx.toNat) > 122))) && (!(decide ((nth bg bx.toNat)<48))))=true->((0:Int)<=bx/\bx<(bg.length:Int))) (ck ((((decide ((nth bg bx.toNat)<97)) || (decide ((nth bg bx.toNat) > 122))) && ((decide ((nth bg bx.toNat)<48)) || (decide ((nth bg bx.toNat) > 57))))=true->((0:Int)<=bx/\bx<(bg.length:Int))) (if ((((decide ((nth bg bx.toNat)<97)) || (decide ((nth bg bx.toNat) > 122))) && ((decide ((nth bg bx.toNat)<48)) || (decide ((nth bg bx.toNat) > 57)))) && ((nth bg bx.toNat) != 45))=true then some (.inr false) else ck (bN (bx+1)) (some (.inl (bx+1))))))))) else some (.inr true)
def ow (bg:O uA):J Bool :=
 ck ((!((decide ((bg.length:Int)<1)) || (decide ((bg.length:Int) > 24))))=true->((0:Int)<=0/\0<(bg.length:Int))) (ck ((!(((decide ((bg.length:Int)<1)) || (decide ((bg.length:Int) > 24))) || (decide ((nth bg (Int.toNat (0)))<97))))=true->((0:Int)<=0/\0<(bg.length:Int))) (if ((((decide ((bg.length:Int)<1)) || (decide ((bg.length:Int) > 24))) || (decide ((nth bg (Int.toNat (0)))<97))) || (decide ((nth bg (Int.toNat (0))) > 122)))=true then some false else loop (λs=>jA bg s) 0))
def iv (bg:O uA):J Bool :=
 some ((decide ((bg.length:Int)>=1)) && (decide ((bg.length:Int)<=15)))
def ku (bg:O uA) (bx:Int):J (Int ⊕ Bool) :=
 if (decide (bx<(bg.length:Int)))=true then (ck ((0:Int)<=bx/\bx<(bg.length:Int)) (ck ((!(decide ((nth bg bx.toNat)<48)))=true->((0:Int)<=bx/\bx<(bg.length:Int))) (if ((decide ((nth bg bx.toNat)<48)) || (decide ((nth bg bx.toNat) > 57)))=true then some (.inr false) else ck (bN (bx+1)) (some (.inl (bx+1)))))) else (iv bg).map (λz=>.inr z)
def fq (bg:O uA):J Bool :=
 loop (λs=>ku bg s) 0
def mH (KT:Event):J Bool :=
 if (KT.kind==1)=true then some ((decide (KT.value>=1)) && (decide (KT.value<=28))) else if (KT.kind==14)=true then some ((decide (KT.value>=1)) && (decide (KT.value<=1125899906842624))) else some ((decide (KT.value>=(-1125899906842624))) && (decide (KT.value<=0)))
def ox (v0:Event) (v1:Int):J Int :=
 if ((decide (v0.kind<1)) || (decide (v0.kind > 15)))=true then some 7 else if ((decide (v0.at_<0)) || (decide (v0.at_>=12622780800)))=true then some 15 else if (decide (v0.at_<v1))=true then some 9 else (lO v0.kind).bind λy1=>if ((((((!(nth y1 0)) && (v0.aH != 0)) || ((!(nth y1 1)) && (v0.sub != 0))) || ((!(nth y1 2)) && (v0.number != ([]:O uA)))) || ((!(nth y1 3)) && (v0.name != ([]:O uA)))) || ((!(nth y1 4)) && (v0.value != 0)))=true then some 8 else (eG (nth y1 0) (sr v0.aH)).bind λy2=>(eG ((!((nth y1 0) && (!y2))) && (nth y1 1)) (sr v0.sub)).bind λy3=>if (((nth y1 0) && (!y2)) || ((nth y1 1) && (!y3)))=true then some 6 else (eG (nth y1 3) (ow v0.name)).bind λy4=>if (((nth y1 3) && (!y4)) || (((v0.kind==1) && (v0.name != ([112,114,101,112,97,105,100]:O uA))) && (v0.name != ([112,111,115,116,112,97,105,100]:O uA))))=true then some 8 else (eG (nth y1 2) (fq v0.number)).bind λy5=>if ((nth y1 2) && (!y5))=true then some 12 else (eG (nth y1 4) (mH v0)).bind λy6=>if ((nth y1 4) && (!y6))=true then some 6 else some 0
def fO (aU:ah) (jj:Int) (ak:Int):J (Int ⊕ Int) :=
 if (decide (ak<(aU.au.length:Int)))=true then (ck ((0:Int)<=ak/\ak<(aU.au.length:Int)) (if (((nth aU.au ak.toNat).id)==jj)=true then some (.inr ak) else ck (bN (ak+1)) (some (.inl (ak+1))))) else some (.inr (-1))
def fD (aU:ah) (jj:Int):J Int :=
 loop (λs=>fO aU jj s) 0
def kv (aU:ah) (jj:Int) (ak:Int):J (Int ⊕ Int) :=
 if (decide (ak<(aU.aN.length:Int)))=true then (ck ((0:Int)<=ak/\ak<(aU.aN.length:Int)) (if (((nth aU.aN ak.toNat).id)==jj)=true then some (.inr ak) else ck (bN (ak+1)) (some (.inl (ak+1))))) else some (.inr (-1))
def jc (aU:ah) (jj:Int):J Int :=
 loop (λs=>kv aU jj s) 0
def iw (aU:ah) (jj:Int) (ak:Int):J (Int ⊕ Bool) :=
 if (decide (ak<(aU.ended.length:Int)))=true then (ck ((0:Int)<=ak/\ak<(aU.ended.length:Int)) (if ((nth aU.ended ak.toNat)==jj)=true then some (.inr true) else ck (bN (ak+1)) (some (.inl (ak+1))))) else some (.inr false)
def gg (aU:ah) (jj:Int):J Bool :=
 loop (λs=>iw aU jj s) 0
def jB (aU:ah) (jj:Int) (ak:Int):J (Int ⊕ Bool) :=
 if (decide (ak<(aU.aN.length:Int)))=true then (ck ((0:Int)<=ak/\ak<(aU.aN.length:Int)) (ck ((((nth aU.aN ak.toNat).aH)==jj)=true->((0:Int)<=ak/\ak<(aU.aN.length:Int))) ((eG (((nth aU.aN ak.toNat).aH)==jj) (gg aU (nth aU.aN ak.toNat).id)).bind λy1=>if ((((nth aU.aN ak.toNat).aH)==jj) && (!y1))=true then some (.inr true) else ck (bN (ak+1)) (some (.inl (ak+1)))))) else some (.inr false)
def oy (aU:ah) (jj:Int):J Bool :=
 loop (λs=>jB aU jj s) 0
def gD (aU:ah) (pZ:Event):J Int :=
 (fD aU pZ.aH).bind λy1=>if (pZ.kind==1)=true then (if (decide (y1>=0))=true then some 10 else some 0) else if (decide (y1<0))=true then some 11 else ck ((0:Int)<=y1/\y1<(aU.au.length:Int)) (if ((nth aU.au y1.toNat).closed)=true then some 17 else (eG (pZ.kind==3) (jc aU pZ.sub)).bind λy2=>if ((pZ.kind==3) && (decide (y2>=0)))=true then some 10 else (eG (pZ.kind==2) (oy aU pZ.aH)).bind λy3=>ck (((!((pZ.kind==2) && y3)) && (decide (pZ.kind > 13)))=true->((0:Int)<=y1/\y1<(aU.au.length:Int))) (if (((pZ.kind==2) && y3) || ((decide (pZ.kind > 13)) && (!(nth aU.au y1.toNat).ja)))=true then some 22 else some 0))
def kx (kb:O (O uA)) (su:O uA) (ak:Int):J (Int ⊕ Bool) :=
 if (decide (ak<(kb.length:Int)))=true then (ck ((0:Int)<=ak/\ak<(kb.length:Int)) (if ((nth kb ak.toNat)==su)=true then some (.inr true) else ck (bN (ak+1)) (some (.inl (ak+1))))) else some (.inr false)
def jd (kb:O (O uA)) (su:O uA):J Bool :=
 loop (λs=>kx kb su s) 0
def iy (aU:ah) (c9:O uA) (ak:Int):J (Int ⊕ Bool) :=
 if (decide (ak<(aU.aN.length:Int)))=true then (ck ((0:Int)<=ak/\ak<(aU.aN.length:Int)) ((jd (nth aU.aN ak.toNat).numbers c9).bind λy1=>if y1=true then some (.inr true) else ck (bN (ak+1)) (some (.inl (ak+1))))) else some (.inr false)
def mI (aU:ah) (c9:O uA):J Bool :=
 loop (λs=>iy aU c9 s) 0
def fP (v0:ah) (v1:Event) (y1:Int) (AZ:Bool):J Int :=
 if AZ=true then (if (((nth v0.aN y1.toNat).family)==(v1.kind==12))=true then some 22 else some 0) else some 0
def fQ (v0:ah) (v1:Event) (y1:Int) (A0:Bool):J Int :=
 if A0=true then (if (((nth v0.aN y1.toNat).aV)==(v1.kind==10))=true then some 22 else some 0) else if (v1.kind==12)=true then (fP v0 v1 y1 (v1.kind==12)) else fP v0 v1 y1 (v1.kind==13)
def mJ (v0:ah) (v1:Event):J Int :=
 (jc v0 v1.sub).bind λy1=>if (decide (y1<0))=true then some 11 else (gg v0 v1.sub).bind λy2=>if y2=true then some 17 else ck ((0:Int)<=y1/\y1<(v0.aN.length:Int)) (if (v1.kind==5)=true then ((mI v0 v1.number).bind λy3=>if y3=true then some 12 else some 0) else if (v1.kind==6)=true then ((jd (nth v0.aN y1.toNat).numbers v1.number).bind λy4=>if (!y4)=true then some 12 else some 0) else if (v1.kind==8)=true then ((jd (nth v0.aN y1.toNat).bY v1.name).bind λy5=>if y5=true then some 10 else some 0) else if (v1.kind==9)=true then ((jd (nth v0.aN y1.toNat).bY v1.name).bind λy6=>if (!y6)=true then some 11 else some 0) else if (v1.kind==10)=true then (fQ v0 v1 y1 (v1.kind==10)) else fQ v0 v1 y1 (v1.kind==11))
def kc (aU:ah) (pZ:Event) (lP:Int):J Int :=
 (ox pZ lP).bind λy1=>if (y1 != 0)=true then some y1 else (lO pZ.kind).bind λy2=>if (nth y2 0)=true then ((gD aU pZ).bind λy3=>some y3) else (mJ aU pZ).bind λy4=>some y4
def gS (kb:O (O uA)) (su:O uA) (bS:Int):J (O (O uA)) :=
 ck ((0:Int)<=bS/\bS<=(kb.length:Int)) (ck (([]:O (O uA)).length+(kb.take bS.toNat).length<=1000000000) (ck ((([]:O (O uA))++(kb.take bS.toNat)).length+([su]:O (O uA)).length<=1000000000) (ck ((0:Int)<=bS/\bS<=(kb.length:Int)) (ck (((([]:O (O uA))++(kb.take bS.toNat))++([su]:O (O uA))).length+(kb.drop bS.toNat).length<=1000000000) (some (((([]:O (O uA))++(kb.take bS.toNat))++([su]:O (O uA)))++(kb.drop bS.toNat)))))))
def pE (kb:O (O uA)) (su:O uA) (cE:Int):J (Int ⊕ (O (O uA))) :=
 ck ((decide (cE<(kb.length:Int)))=true->((0:Int)<=cE/\cE<(kb.length:Int))) (if ((decide (cE<(kb.length:Int))) && (ou (nth kb cE.toNat) su))=true then (ck (bN (cE+1)) (some (.inl (cE+1)))) else (gS kb su cE).map (λz=>.inr z))
def lQ (kb:O (O uA)) (su:O uA):J (O (O uA)) :=
 loop (λs=>pE kb su s) 0
def lR (kb:O (O uA)) (su:O uA) (bZ:O (O uA)) (bk:Int):J ((O (O uA)×Int) ⊕ (O (O uA))) :=
 if (decide (bk<(kb.length:Int)))=true then (ck ((0:Int)<=bk/\bk<(kb.length:Int)) (if ((nth kb bk.toNat) != su)=true then (ck ((0:Int)<=bk/\bk<(kb.length:Int)) (ck (bZ.length+([nth kb bk.toNat]:O (O uA)).length<=1000000000) (ck (bN (bk+1)) (some (.inl (bZ++([nth kb bk.toNat]:O (O uA)),bk+1)))))) else ck (bN (bk+1)) (some (.inl (bZ,bk+1))))) else some (.inr bZ)
def gT (kb:O (O uA)) (su:O uA):J (O (O uA)) :=
 loop (λs=>lR kb su s.1 s.2) (([]:O (O uA)),0)
def jC (bg:Sub) (pZ:Event):J Sub :=
 if (pZ.kind==4)=true then some (⟨bg.id,bg.aH,bg.since,bg.qY,([]:O (O uA)),([]:O (O uA)),bg.aV,bg.family⟩:Sub) else if (pZ.kind==5)=true then ((lQ bg.numbers pZ.number).bind λy1=>some (⟨bg.id,bg.aH,bg.since,bg.qY,y1,bg.bY,bg.aV,bg.family⟩:Sub)) else if (pZ.kind==6)=true then ((gT bg.numbers pZ.number).bind λy2=>some (⟨bg.id,bg.aH,bg.since,bg.qY,y2,bg.bY,bg.aV,bg.family⟩:Sub)) else if (pZ.kind==7)=true then some (⟨bg.id,bg.aH,bg.since,pZ.name,bg.numbers,bg.bY,bg.aV,bg.family⟩:Sub) else if (pZ.kind==8)=true then ((lQ bg.bY pZ.name).bind λy3=>some (⟨bg.id,bg.aH,bg.since,bg.qY,bg.numbers,y3,bg.aV,bg.family⟩:Sub)) else if (pZ.kind==9)=true then ((gT bg.bY pZ.name).bind λy4=>some (⟨bg.id,bg.aH,bg.since,bg.qY,bg.numbers,y4,bg.aV,bg.family⟩:Sub)) else if (pZ.kind==10)=true then some (⟨bg.id,bg.aH,bg.since,bg.qY,bg.numbers,bg.bY,true,bg.family⟩:Sub) else if (pZ.kind==11)=true then some (⟨bg.id,bg.aH,bg.since,bg.qY,bg.numbers,bg.bY,false,bg.family⟩:Sub) else if (pZ.kind==12)=true then some (⟨bg.id,bg.aH,bg.since,bg.qY,bg.numbers,bg.bY,bg.aV,true⟩:Sub) else if (pZ.kind==13)=true then some (⟨bg.id,bg.aH,bg.since,bg.qY,bg.numbers,bg.bY,bg.aV,false⟩:Sub) else some bg
def eR (v0:ah) (v1:Event) (A1:Bool):J ah :=
 if A1=true then some (⟨([]:O aw)++v0.au,([]:O Sub)++v0.aN,([]:O Int)++v0.ended⟩:ah) else (jc v0 v1.sub).bind λy2=>ck ((0:Int)<=y2/\y2<((([]:O Sub)++v0.aN).length:Int)) (ck (y2.toNat<(([]:O Sub)++v0.aN).length) ((jC (nth (([]:O Sub)++v0.aN) y2.toNat) v1).bind λy3=>ck ((0:Int)<=y2/\y2<((([]:O Sub)++v0.aN).length:Int)) (ck (y2.toNat<(([]:O Sub)++v0.aN).length) (if (v1.kind==4)=true then (ck ((([]:O Int)++v0.ended).length+([v1.sub]:O Int).length<=1000000000) (some (⟨([]:O aw)++v0.au,(([]:O Sub)++v0.aN).set y2.toNat y3,(([]:O Int)++v0.ended)++([v1.sub]:O Int)⟩:ah))) else some (⟨([]:O aw)++v0.au,(([]:O Sub)++v0.aN).set y2.toNat y3,([]:O Int)++v0.ended⟩:ah)))))
def dQ (v0:ah) (v1:Event):J ah :=
 ck (v0.au.length<=1000000000) (ck (v0.aN.length<=1000000000) (ck (v0.ended.length<=1000000000) (if (v1.kind==1)=true then (ck ((([]:O aw)++v0.au).length+([(⟨v1.aH,v1.at_,v1.value,(v1.name==([112,114,101,112,97,105,100]:O uA)),false,([]:O Int)⟩:aw)]:O aw).length<=1000000000) (some (⟨(([]:O aw)++v0.au)++([(⟨v1.aH,v1.at_,v1.value,(v1.name==([112,114,101,112,97,105,100]:O uA)),false,([]:O Int)⟩:aw)]:O aw),([]:O Sub)++v0.aN,([]:O Int)++v0.ended⟩:ah))) else if (v1.kind==2)=true then ((fD v0 v1.aH).bind λy1=>ck ((0:Int)<=y1/\y1<((([]:O aw)++v0.au).length:Int)) (ck (y1.toNat<(([]:O aw)++v0.au).length) (some (⟨(([]:O aw)++v0.au).set y1.toNat (⟨(nth (([]:O aw)++v0.au) y1.toNat).id,(nth (([]:O aw)++v0.au) y1.toNat).since,(nth (([]:O aw)++v0.au) y1.toNat).anchor,(nth (([]:O aw)++v0.au) y1.toNat).ja,true,([]:O Int)⟩:aw),([]:O Sub)++v0.aN,([]:O Int)++v0.ended⟩:ah)))) else if (v1.kind==3)=true then (ck ((([]:O Sub)++v0.aN).length+([(⟨v1.sub,v1.aH,v1.at_,v1.name,([]:O (O uA)),([]:O (O uA)),false,false⟩:Sub)]:O Sub).length<=1000000000) (some (⟨([]:O aw)++v0.au,(([]:O Sub)++v0.aN)++([(⟨v1.sub,v1.aH,v1.at_,v1.name,([]:O (O uA)),([]:O (O uA)),false,false⟩:Sub)]:O Sub),([]:O Int)++v0.ended⟩:ah))) else if (v1.kind==14)=true then (eR v0 v1 (v1.kind==14)) else eR v0 v1 (v1.kind==15))))
def iz (aD:O Event) (sv:Int) (bk:Int) (iA:O aw) (fE:O Sub) (fF:O Int):J ((Int×Int×O aw×O Sub×O Int) ⊕ (Int×Int)) :=
 if (decide (bk<(aD.length:Int)))=true then (ck ((0:Int)<=bk/\bk<(aD.length:Int)) ((kc (⟨iA,fE,fF⟩:ah) (nth aD bk.toNat) sv).bind λy1=>if (y1 != 0)=true then some (.inr (bk,y1)) else ck ((0:Int)<=bk/\bk<(aD.length:Int)) ((dQ (⟨iA,fE,fF⟩:ah) (nth aD bk.toNat)).bind λy2=>ck ((0:Int)<=bk/\bk<(aD.length:Int)) (ck (bN (bk+1)) (some (.inl ((nth aD bk.toNat).at_,bk+1,y2.au,y2.aN,y2.ended))))))) else some (.inr (0,0))
def mK (aD:O Event):J (Int×Int) :=
 if (decide ((aD.length:Int) > 4096))=true then some (0,5) else loop (λs=>iz aD s.1 s.2.1 s.2.2.1 s.2.2.2.1 s.2.2.2.2) (0,0,([]:O aw),([]:O Sub),([]:O Int))
def gU (aD:O Event):J Bool :=
 (mK aD).bind λy1=>some (y1.2==0)
def ml (aD:O Event) (ed:O (O uA)) (ak:Int):J (Int ⊕ Bool) :=
 if (decide (ak<(ed.length:Int)))=true then (ck ((0:Int)<=ak/\ak<(ed.length:Int)) (if (decide (((nth ed ak.toNat).length:Int) > 2000))=true then some (.inr false) else ck (bN (ak+1)) (some (.inl (ak+1))))) else (gU aD).map (λz=>.inr z)
def oz (aD:O Event) (ed:O (O uA)):J Bool :=
 if ((decide ((aD.length:Int) > 24)) || (decide ((ed.length:Int) > 6)))=true then some false else loop (λs=>ml aD ed s) 0
def je (aM:O Int) (jj:Int) (bS:Int):J (O Int) :=
 ck ((decide (bS<(aM.length:Int)))=true->((0:Int)<=bS/\bS<(aM.length:Int))) (if ((decide (bS<(aM.length:Int))) && ((nth aM bS.toNat)==jj))=true then some aM else ck ((0:Int)<=bS/\bS<=(aM.length:Int)) (ck ((aM.take bS.toNat).length<=1000000000) (ck ((aM.take bS.toNat).length+([jj]:O Int).length<=1000000000) (ck ((0:Int)<=bS/\bS<=(aM.length:Int)) (ck (((aM.take bS.toNat)++([jj]:O Int)).length+(aM.drop bS.toNat).length<=1000000000) (some (((aM.take bS.toNat)++([jj]:O Int))++(aM.drop bS.toNat))))))))
def p5 (aM:O Int) (jj:Int) (cE:Int) (fa:Int):J ((Int×Int) ⊕ (O Int)) :=
 if (decide (cE<fa))=true then (ck (bN (cE+fa)) (ck (2≠(0:Int)/\bN (Int.tdiv (cE+fa) 2)) (ck ((0:Int)<=(Int.tdiv (cE+fa) 2)/\(Int.tdiv (cE+fa) 2)<(aM.length:Int)) (if (decide ((nth aM (Int.tdiv (cE+fa) 2).toNat)<jj))=true then (ck (bN ((Int.tdiv (cE+fa) 2)+1)) (some (.inl ((Int.tdiv (cE+fa) 2)+1,fa)))) else some (.inl (cE,Int.tdiv (cE+fa) 2)))))) else (je aM jj cE).map (λz=>.inr z)
def gV (aM:O Int) (jj:Int):J (O Int) :=
 loop (λs=>p5 aM jj s.1 s.2) (0,(aM.length:Int))
def oA (bV:O (Int×Int)) (bW:O (Int×aG)) (bB:O Int) (dR:O (Int×Int)) (fG:O (Int×aG)) (p6:O aT) (bG:Int):J ((O aT×Int) ⊕ (O aT)) :=
 if (decide (bG<(bB.length:Int)))=true then (ck ((0:Int)<=bG/\bG<(bB.length:Int)) (if (((aO bV (nth bB bG.toNat)).getD 0) != ((aO dR (nth bB bG.toNat)).getD 0))=true then (ck (p6.length+([(⟨2,nth bB bG.toNat,(aO bV (nth bB bG.toNat)).getD 0,(aO dR (nth bB bG.toNat)).getD 0⟩:aT)]:O aT).length<=1000000000) (ck (bN (bG+1)) (some (.inl (p6++([(⟨2,nth bB bG.toNat,(aO bV (nth bB bG.toNat)).getD 0,(aO dR (nth bB bG.toNat)).getD 0⟩:aT)]:O aT),bG+1))))) else if (!(jy (aG.j6 ((aO bW (nth bB bG.toNat)).getD (⟨0,0,0,0,([]:O uA),([]:O uA),0,0,0,false,0,0⟩:aG))) (aG.j6 ((aO fG (nth bB bG.toNat)).getD (⟨0,0,0,0,([]:O uA),([]:O uA),0,0,0,false,0,0⟩:aG)))))=true then (ck (p6.length+([(⟨3,nth bB bG.toNat,((aO bW (nth bB bG.toNat)).getD (⟨0,0,0,0,([]:O uA),([]:O uA),0,0,0,false,0,0⟩:aG)).aJ,((aO fG (nth bB bG.toNat)).getD (⟨0,0,0,0,([]:O uA),([]:O uA),0,0,0,false,0,0⟩:aG)).aJ⟩:aT)]:O aT).length<=1000000000) (ck (bN (bG+1)) (some (.inl (p6++([(⟨3,nth bB bG.toNat,((aO bW (nth bB bG.toNat)).getD (⟨0,0,0,0,([]:O uA),([]:O uA),0,0,0,false,0,0⟩:aG)).aJ,((aO fG (nth bB bG.toNat)).getD (⟨0,0,0,0,([]:O uA),([]:O uA),0,0,0,false,0,0⟩:aG)).aJ⟩:aT)]:O aT),bG+1))))) else ck (bN (bG+1)) (some (.inl (p6,bG+1))))) else some (.inr p6)
def gn (bV:O (Int×Int)) (bW:O (Int×aG)) (bB:O Int) (dR:O (Int×Int)) (fG:O (Int×aG)):J (O aT) :=
 loop (λs=>oA bV bW bB dR fG s.1 s.2) (([]:O aT),0)
def eS (v1:O fg) (aL:Int) (dS:O (Int×Int)) (y1:(O Int)) (ug:O (Int×aG)):J ((O Int×Int×(O (Int×Int))×(O (Int×aG))) ⊕ (O aT)) :=
 ck (bN (((aO dS ((nth v1 aL.toNat).aQ).id).getD 0)+1)) (ck (bN (aL+1)) (some (.inl (y1,aL+1,fe dS ((nth v1 aL.toNat).aQ).id (((aO dS ((nth v1 aL.toNat).aQ).id).getD 0)+1),ug))))
def oB (v1:O fg) (bV:O (Int×Int)) (bW:O (Int×aG)) (F7:O Int) (aL:Int) (dS:O (Int×Int)) (nf:O (Int×aG)):J ((O Int×Int×(O (Int×Int))×(O (Int×aG))) ⊕ (O aT)) :=
 if (decide (aL<(v1.length:Int)))=true then (ck ((0:Int)<=aL/\aL<(v1.length:Int)) ((gV F7 ((nth v1 aL.toNat).aQ).id).bind λy1=>if (((aO dS ((nth v1 aL.toNat).aQ).id).getD 0)==0)=true then (eS v1 aL dS y1 (fe nf ((nth v1 aL.toNat).aQ).id (nth v1 aL.toNat).aQ)) else eS v1 aL dS y1 nf)) else (gn bV bW F7 dS nf).map (λz=>.inr z)
def gq (v1:O fg) (u7:O Int) (bV:O (Int×Int)) (bW:O (Int×aG)):J (O aT) :=
 loop (λs=>oB v1 bV bW s.1 s.2.1 s.2.2.1 s.2.2.2) (u7,0,([]:O (Int×Int)),([]:O (Int×aG)))
def eT (v0:O aG) (bD:Int) (dT:O (Int×Int)) (y2:(O Int)) (uh:O (Int×aG)):J ((O Int×Int×(O (Int×Int))×(O (Int×aG))) ⊕ (O aT)) :=
 ck (bN (((aO dT (nth v0 bD.toNat).id).getD 0)+1)) (ck (bN (bD+1)) (some (.inl (y2,bD+1,fe dT (nth v0 bD.toNat).id (((aO dT (nth v0 bD.toNat).id).getD 0)+1),uh))))
def oC (v0:O aG) (v1:O fg) (F8:O Int) (bD:Int) (dT:O (Int×Int)) (ng:O (Int×aG)):J ((O Int×Int×(O (Int×Int))×(O (Int×aG))) ⊕ (O aT)) :=
 if (decide (bD<(v0.length:Int)))=true then (ck ((0:Int)<=bD/\bD<(v0.length:Int)) ((gV F8 (nth v0 bD.toNat).id).bind λy2=>if (((aO dT (nth v0 bD.toNat).id).getD 0)==0)=true then (eT v0 bD dT y2 (fe ng (nth v0 bD.toNat).id (nth v0 bD.toNat))) else eT v0 bD dT y2 ng)) else (gq v1 F8 dT ng).map (λz=>.inr z)
def nh (v0:O aG) (v1:O fg):J (O aT) :=
 loop (λs=>oC v0 v1 s.1 s.2.1 s.2.2.1 s.2.2.2) ([],0,([]:O (Int×Int)),([]:O (Int×aG)))
def lD (cz:Int) (dJ:O Int) (mL:O (Int×Int)) (mM:O (Int×Int)) (mm:O aT) (bj:Int):J ((O aT×Int) ⊕ (O aT)) :=
 if (decide (bj<(dJ.length:Int)))=true then (ck ((0:Int)<=bj/\bj<(dJ.length:Int)) (if (((aO mL (nth dJ bj.toNat)).getD 0) != ((aO mM (nth dJ bj.toNat)).getD 0))=true then (ck (mm.length+([(⟨cz,nth dJ bj.toNat,(aO mL (nth dJ bj.toNat)).getD 0,(aO mM (nth dJ bj.toNat)).getD 0⟩:aT)]:O aT).length<=1000000000) (ck (bN (bj+1)) (some (.inl (mm++([(⟨cz,nth dJ bj.toNat,(aO mL (nth dJ bj.toNat)).getD 0,(aO mM (nth dJ bj.toNat)).getD 0⟩:aT)]:O aT),bj+1))))) else ck (bN (bj+1)) (some (.inl (mm,bj+1))))) else some (.inr mm)
def j7 (cz:Int) (dJ:O Int) (mL:O (Int×Int)) (mM:O (Int×Int)):J (O aT) :=
 loop (λs=>lD cz dJ mL mM s.1 s.2) (([]:O aT),0)
def fu (bV:O (Int×Int)) (ta:O Int) (dR:O (Int×Int)):J (O aT) :=
 (j7 5 ta bV dR).bind λy1=>some y1
def mN (bC:O pX) (bV:O (Int×Int)) (ph:O Int) (dr:Int) (ch:O (Int×Int)):J ((O Int×Int×(O (Int×Int))) ⊕ (O aT)) :=
 if (decide (dr<(bC.length:Int)))=true then (ck ((0:Int)<=dr/\dr<(bC.length:Int)) (if ((((nth bC dr.toNat).kind)==1) || (((nth bC dr.toNat).kind)==3))=true then ((gV ph (nth bC dr.toNat).sub).bind λy2=>ck (bN (((aO ch (nth bC dr.toNat).sub).getD 0)+((nth bC dr.toNat).ov))) (ck (bN (dr+1)) (some (.inl (y2,dr+1,fe ch (nth bC dr.toNat).sub (((aO ch (nth bC dr.toNat).sub).getD 0)+((nth bC dr.toNat).ov))))))) else ck (bN (dr+1)) (some (.inl (ph,dr+1,ch))))) else (fu bV ph ch).map (λz=>.inr z)
def fv (bC:O pX) (tb:O Int) (bV:O (Int×Int)):J (O aT) :=
 loop (λs=>mN bC bV s.1 s.2.1 s.2.2) (tb,0,([]:O (Int×Int)))
def mO (bq:O fg) (bC:O pX) (rb:O Int) (cw:Int) (jr:O (Int×Int)):J ((O Int×Int×(O (Int×Int))) ⊕ (O aT)) :=
 if (decide (cw<(bq.length:Int)))=true then (ck ((0:Int)<=cw/\cw<(bq.length:Int)) ((gV rb ((nth bq cw.toNat).aQ).sub).bind λy3=>ck (bN (((aO jr ((nth bq cw.toNat).aQ).sub).getD 0)+((nth bq cw.toNat).Aa))) (ck (bN (cw+1)) (some (.inl (y3,cw+1,fe jr ((nth bq cw.toNat).aQ).sub (((aO jr ((nth bq cw.toNat).aQ).sub).getD 0)+((nth bq cw.toNat).Aa)))))))) else (fv bC rb jr).map (λz=>.inr z)
def kz (bq:O fg) (bC:O pX):J (O aT) :=
 loop (λs=>mO bq bC s.1 s.2.1 s.2.2) ([],0,([]:O (Int×Int)))
def mn (re:O aT) (pj:O aT) (ak:Int):J (Int ⊕ Bool) :=
 if (decide (ak<(re.length:Int)))=true then (ck ((0:Int)<=ak/\ak<(re.length:Int)) (ck ((0:Int)<=ak/\ak<(pj.length:Int)) (if (!(jy (aT.j6 (nth re ak.toNat)) (aT.j6 (nth pj ak.toNat))))=true then some (.inr false) else ck (bN (ak+1)) (some (.inl (ak+1)))))) else some (.inr true)
def lS (re:O aT) (pj:O aT):J Bool :=
 if ((re.length:Int) != (pj.length:Int))=true then some false else loop (λs=>mn re pj s) 0
def pF (cz:Int):J (O uA) :=
 if (cz==1)=true then some ([105,110,116,97,107,101]:O uA) else if (cz==2)=true then some ([117,115,97,103,101]:O uA) else if (cz==3)=true then some ([117,110,105,116,115]:O uA) else if (cz==4)=true then some ([109,111,110,101,121]:O uA) else if (cz==5)=true then some ([105,110,118,111,105,99,101]:O uA) else if (cz==6)=true then some ([108,101,100,103,101,114]:O uA) else some ([63]:O uA)
def fL (m8:Int) (gE:Int) (dn:O uA):J (O uA) :=
 if (decide (m8<0))=true then (ck ((0:Int)<=gE/\gE<(20:Int)) (ck (dn.length=20) (ck (([45]:O uA).length+(dn.drop gE.toNat).length<=9223372036854775807) (some (([45]:O uA)++(dn.drop gE.toNat)))))) else ck ((0:Int)<=gE/\gE<(20:Int)) (ck (dn.length=20) (some (dn.drop gE.toNat)))
def nq (m8:Int) (tE:Int) (ak:Int) (iA:O uA):J ((Int×Int×O uA) ⊕ (O uA)) :=
 if ((decide (tE > 0)) || (ak==20))=true then (ck (bN (ak-1)) (ck (10≠(0:Int)) (ck ((0:Int)<=(ak-1)/\(ak-1)<(20:Int)) (ck ((ak-1).toNat<iA.length) (ck (10≠(0:Int)) (some (.inl (IntKind.wrap .u64 (Int.tdiv tE 10),ak-1,iA.set (ak-1).toNat (UInt8.ofInt (IntKind.wrap .u64 (48+(Int.tmod tE 10)))))))))))) else (fL m8 ak iA).map (λz=>.inr z)
def ey (m8:Int) (A2:Int):J (O uA) :=
 loop (λs=>nq m8 s.1 s.2.1 s.2.2) (A2,20,(List.replicate 20 0:O uA))
def lT (m8:Int):J (O uA) :=
 if (decide (m8<0))=true then (ey m8 (IntKind.wrap .u64 (0-(IntKind.wrap .u64 m8)))) else ey m8 (IntKind.wrap .u64 m8)
def jf (cm:Int) (u9:O uA):J ((O uA×Int) ⊕ (O uA)) :=
 ck (u9.length+([10]:O uA).length<=1000000000) (ck (bN (cm+1)) (some (.inl (u9++([10]:O uA),cm+1))))
def p7 (aM:O aT) (cm:Int) (rG:O uA) (p8:Int):J ((O uA×Int) ⊕ ((O uA×Int) ⊕ (O uA))) :=
 if (decide (p8<3))=true then (ck ((0:Int)<=p8/\p8<(3:Int)) (ck (rG.length+([32]:O uA).length<=1000000000) ((lT (nth ([(nth aM cm.toNat).key,(nth aM cm.toNat).left,(nth aM cm.toNat).right]:O Int) p8.toNat)).bind λy2=>ck ((rG++([32]:O uA)).length+y2.length<=1000000000) (ck (bN (p8+1)) (some (.inl ((rG++([32]:O uA))++y2,p8+1))))))) else (jf cm rG).map (λz=>.inr z)
def p9 (aM:O aT) (qa:O uA) (cm:Int):J ((O uA×Int) ⊕ (O uA)) :=
 if (decide (cm<(aM.length:Int)))=true then (ck ((0:Int)<=cm/\cm<(aM.length:Int)) ((pF (nth aM cm.toNat).OV).bind λy1=>ck (qa.length+y1.length<=1000000000) (loop (λs=>p7 aM cm s.1 s.2) (qa++y1,0)))) else some (.inr qa)
def mo (aM:O aT):J (O uA) :=
 loop (λs=>p9 aM s.1 s.2) (([]:O uA),0)
def fR (bd:O Range) (bU:Int) (bu:Int):J ((Int×Int) ⊕ Int) :=
 if (decide (bu<(bd.length:Int)))=true then (ck ((0:Int)<=bu/\bu<(bd.length:Int)) (ck (bN ((nth bd bu.toNat).qZ - (nth bd bu.toNat).from_)) (ck (bN (((nth bd bu.toNat).qZ - (nth bd bu.toNat).from_)+1)) (ck (bN (bU+(((nth bd bu.toNat).qZ - (nth bd bu.toNat).from_)+1))) (ck (bN (bu+1)) (some (.inl (bU+(((nth bd bu.toNat).qZ - (nth bd bu.toNat).from_)+1),bu+1)))))))) else some (.inr bU)
def jD (bd:O Range):J Int :=
 loop (λs=>fR bd s.1 s.2) (0,0)
def dx (b8:ao) (bW:Int):J cx :=
 (jD b8.ai.seen).bind λy1=>ck (bN (y1-(b8.usages.length:Int))) (ck (bN ((y1-(b8.usages.length:Int)) - (b8.aI.length:Int))) (ck (bN (((y1-(b8.usages.length:Int)) - (b8.aI.length:Int)) - (b8.ai.open_.length:Int))) (some (⟨bW,(b8.usages.length:Int),((y1-(b8.usages.length:Int)) - (b8.aI.length:Int)) - (b8.ai.open_.length:Int),(b8.bo.length:Int),(b8.aI.length:Int),(b8.ai.open_.length:Int)⟩:cx))))
def dy (b8:ao) (pn:Int) (bM:Int):J ((Int×Int) ⊕ cx) :=
 if (decide (pn<(b8.ai.aX.length:Int)))=true then (ck ((0:Int)<=pn/\pn<(b8.ai.aX.length:Int)) (ck (bN (bM+((nth b8.ai.aX pn.toNat).count))) (ck (bN (pn+1)) (some (.inl (pn+1,bM+((nth b8.ai.aX pn.toNat).count))))))) else (dx b8 bM).map (λz=>.inr z)
def ez (b8:ao):J cx :=
 loop (λs=>dy b8 s.1 s.2) (0,0)
def ef (wM:Int) (rf:Int) (nz:Int) (wN:O aT):J (O aT) :=
 if (rf != nz)=true then (ck (wN.length+([(⟨1,wM,rf,nz⟩:aT)]:O aT).length<=1000000000) (some (wN++([(⟨1,wM,rf,nz⟩:aT)]:O aT)))) else some wN
def dC (b8:ao) (j8:Int):J (O aT) :=
 (ez b8).bind λy1=>(ef 1 j8 y1.read ([]:O aT)).bind λy2=>ck (bN (y1.accepted+y1.merged)) (ck (bN ((y1.accepted+y1.merged)+y1.rejected)) (ck (bN (((y1.accepted+y1.merged)+y1.rejected)+y1.aV)) (ck (bN ((((y1.accepted+y1.merged)+y1.rejected)+y1.aV)+y1.open_)) ((ef 2 y1.read ((((y1.accepted+y1.merged)+y1.rejected)+y1.aV)+y1.open_) y2).bind λy3=>some y3))))
def mP:J Bool :=
 (nh ([(⟨3,0,0,0,([]:O uA),([]:O uA),0,0,0,false,0,0⟩:aG)]:O aG) ([]:O fg)).bind λy1=>(kz ([(⟨(⟨0,0,0,2,([]:O uA),([]:O uA),0,0,0,false,0,0⟩:aG),0,([]:O uA),0,([]:O uA),([]:O wZ),([]:O jP),0,0,0,([]:O rF),0,700⟩:fg)]:O fg) ([(⟨3,2,([]:O uA),([]:O uA),0,0,500,0⟩:pX)]:O pX)).bind λy2=>(lS y1 ([(⟨2,3,1,0⟩:aT)]:O aT)).bind λy3=>(eG y3 (mo y2)).bind λy4=>(eG (y3 && (y4==([105,110,118,111,105,99,101,32,50,32,55,48,48,32,53,48,48,10]:O uA))) (mo y1)).bind λy5=>(eG ((y3 && (y4==([105,110,118,111,105,99,101,32,50,32,55,48,48,32,53,48,48,10]:O uA))) && (y5==([117,115,97,103,101,32,51,32,49,32,48,10]:O uA))) (dC (⟨(⟨([]:O Range),([]:O aa),([]:O Head)⟩:bE),([]:O aG),([]:O aa),([]:O aj)⟩:ao) 0)).bind λy6=>(eG (((y3 && (y4==([105,110,118,111,105,99,101,32,50,32,55,48,48,32,53,48,48,10]:O uA))) && (y5==([117,115,97,103,101,32,51,32,49,32,48,10]:O uA))) && ((y6.length:Int)==0)) (dC (⟨(⟨([]:O Range),([]:O aa),([]:O Head)⟩:bE),([]:O aG),([]:O aa),([]:O aj)⟩:ao) 1)).bind λy7=>some ((((y3 && (y4==([105,110,118,111,105,99,101,32,50,32,55,48,48,32,53,48,48,10]:O uA))) && (y5==([117,115,97,103,101,32,51,32,49,32,48,10]:O uA))) && ((y6.length:Int)==0)) && ((y7.length:Int)==1))
def oD (re:O uA) (pj:O uA):J (O uA) :=
 ck (([]:O uA).length+re.length<=1000000000) (ck ((([]:O uA)++re).length+pj.length<=1000000000) (some ((([]:O uA)++re)++pj)))
def jQ (v0:O uA) (da:Int) (bc:Int) (aW:Int):J ((Int×Int×Int) ⊕ (Int×(O uA)×Int)) :=
 if (decide (aW<10))=true then (if (aW==(v0.length:Int))=true then some (.inr (0,([]:O uA),2)) else ck ((0:Int)<=aW/\aW<(v0.length:Int)) (if (((aW==9) && ((IntKind.wrap .u64 ((nth v0 aW.toNat).toNat:Int)) != 1)) || ((decide (aW > 0)) && ((IntKind.wrap .u64 ((nth v0 aW.toNat).toNat:Int))==0)))=true then some (.inr (0,([]:O uA),1)) else ck (128≠(0:Int)) (if (decide ((IntKind.wrap .u64 ((nth v0 aW.toNat).toNat:Int))>=128))=true then (ck (bN (aW+1)) (some (.inl (IntKind.wrap .u64 (da+(IntKind.wrap .u64 ((Int.tmod (IntKind.wrap .u64 ((nth v0 aW.toNat).toNat:Int)) 128)*bc))),IntKind.wrap .u64 (bc*128),aW+1)))) else ck (bN (aW+1)) (ck ((0:Int)<=aW+1/\aW+1<=(v0.length:Int)) ((oD ([]:O uA) (v0.drop (aW+1).toNat)).bind λy1=>ck (2≠(0:Int)) (if ((Int.tmod (IntKind.wrap .u64 (da+(IntKind.wrap .u64 ((Int.tmod (IntKind.wrap .u64 ((nth v0 aW.toNat).toNat:Int)) 128)*bc)))) 2)==1)=true then (ck (2≠(0:Int)) (ck ((-9223372036854775807:Int)<=IntKind.wrap .i64 (IntKind.wrap .u64 (Int.tdiv (IntKind.wrap .u64 (da+(IntKind.wrap .u64 ((Int.tmod (IntKind.wrap .u64 ((nth v0 aW.toNat).toNat:Int)) 128)*bc)))) 2))/\IntKind.wrap .i64 (IntKind.wrap .u64 (Int.tdiv (IntKind.wrap .u64 (da+(IntKind.wrap .u64 ((Int.tmod (IntKind.wrap .u64 ((nth v0 aW.toNat).toNat:Int)) 128)*bc)))) 2))<=9223372036854775807) (ck (bN ((-(IntKind.wrap .i64 (IntKind.wrap .u64 (Int.tdiv (IntKind.wrap .u64 (da+(IntKind.wrap .u64 ((Int.tmod (IntKind.wrap .u64 ((nth v0 aW.toNat).toNat:Int)) 128)*bc)))) 2)))) - 1)) (some (.inr ((-(IntKind.wrap .i64 (IntKind.wrap .u64 (Int.tdiv (IntKind.wrap .u64 (da+(IntKind.wrap .u64 ((Int.tmod (IntKind.wrap .u64 ((nth v0 aW.toNat).toNat:Int)) 128)*bc)))) 2)))) - 1,y1,0)))))) else ck (2≠(0:Int)) (some (.inr (IntKind.wrap .i64 (IntKind.wrap .u64 (Int.tdiv (IntKind.wrap .u64 (da+(IntKind.wrap .u64 ((Int.tmod (IntKind.wrap .u64 ((nth v0 aW.toNat).toNat:Int)) 128)*bc)))) 2)),y1,0))))))))) else some (.inr (0,([]:O uA),1))
def jg (v0:O uA):J (Int×(O uA)×Int) :=
 loop (λs=>jQ v0 s.1 s.2.1 s.2.2) (0,1,0)
def nA (aU:O uA) (bU:Int) (aq:Int):J ((Int×Int) ⊕ Int) :=
 if (decide (aq<(aU.length:Int)))=true then (ck ((0:Int)<=aq/\aq<(aU.length:Int)) (ck (bN (aq+1)) (some (.inl (IntKind.wrap .u32 ((MV .u32 bU (IntKind.wrap .u32 ((nth aU aq.toNat).toNat:Int)))*16777619),aq+1))))) else some (.inr bU)
def lU (aU:O uA):J Int :=
 loop (λs=>nA aU s.1 s.2) (2166136261,0)
def gr (v0:O uA):J ((O uA)×(O uA)×Int) :=
 (jg v0).bind λy1=>if (y1.2.2 != 0)=true then some (([]:O uA),([]:O uA),y1.2.2) else if (decide (y1.1<0))=true then some (([]:O uA),([]:O uA),1) else if (decide (y1.1 > 1048576))=true then some (([]:O uA),([]:O uA),5) else ck (bN (4+y1.1)) (if (decide ((y1.2.1.length:Int)<(4+y1.1)))=true then some (([]:O uA),([]:O uA),2) else ck (bN (4+y1.1)) (ck ((0:Int)<=(4:Int)/\(4:Int)<=4+y1.1/\4+y1.1<=(y1.2.1.length:Int)) (ck (((y1.2.1.take (4+y1.1).toNat).drop ((4:Int)).toNat).length<=1000000000) (ck ((0:Int)<=0/\0<(y1.2.1.length:Int)) (ck ((0:Int)<=24) (ck ((0:Int)<=1/\1<(y1.2.1.length:Int)) (ck ((0:Int)<=16) (ck ((0:Int)<=2/\2<(y1.2.1.length:Int)) (ck ((0:Int)<=8) (ck ((0:Int)<=3/\3<(y1.2.1.length:Int)) ((lU ((y1.2.1.take (4+y1.1).toNat).drop ((4:Int)).toNat)).bind λy2=>if (y2 != (IntKind.wrap .u32 ((IntKind.wrap .u32 ((IntKind.wrap .u32 ((IntKind.wrap .u32 ((IntKind.wrap .u32 ((nth y1.2.1 (Int.toNat (0))).toNat:Int))*2 ^ (min (Int.toNat (24)) 32)))+(IntKind.wrap .u32 ((IntKind.wrap .u32 ((nth y1.2.1 (Int.toNat (1))).toNat:Int))*2 ^ (min (Int.toNat (16)) 32)))))+(IntKind.wrap .u32 ((IntKind.wrap .u32 ((nth y1.2.1 (Int.toNat (2))).toNat:Int))*2 ^ (min (Int.toNat (8)) 32)))))+(IntKind.wrap .u32 ((nth y1.2.1 (Int.toNat (3))).toNat:Int)))))=true then some (([]:O uA),([]:O uA),4) else ck (bN (4+y1.1)) (ck ((0:Int)<=4+y1.1/\4+y1.1<=(y1.2.1.length:Int)) (ck ((y1.2.1.drop (4+y1.1).toNat).length<=1000000000) (some ((y1.2.1.take (4+y1.1).toNat).drop ((4:Int)).toNat,y1.2.1.drop (4+y1.1).toNat,0)))))))))))))))
def jE (yz:O uA) (rh:O Int):J ((O Int)×Int) :=
 if (decide ((yz.length:Int) > 0))=true then some (([]:O Int),3) else some (rh,0)
def mq (jj:Int) (yA:O uA) (dK:O Int) (bn:Int):J ((O uA×O Int×Int) ⊕ ((O Int)×Int)) :=
 if (decide (bn<jj))=true then ((jg yA).bind λy1=>if (y1.2.2 != 0)=true then some (.inr (([]:O Int),y1.2.2)) else ck (dK.length+([y1.1]:O Int).length<=1000000000) (ck (bN (bn+1)) (some (.inl (y1.2.1,dK++([y1.1]:O Int),bn+1))))) else (jE yA dK).map (λz=>.inr z)
def iB (aU:O uA) (jj:Int):J ((O Int)×Int) :=
 loop (λs=>mq jj s.1 s.2.1 s.2.2) (aU,([]:O Int),0)
def iC (iD:Int) (c9:Int) (sw:Int):J Int :=
 if ((((decide (iD<1)) || (decide (iD > 99))) || (decide (c9<1))) || (decide (c9 > 999999999)))=true then some 6 else if ((decide (sw<1)) || (decide (sw>=4)))=true then some 7 else some 0
def mQ (v0:O uA):J (Head×(O uA)×Int) :=
 (gr v0).bind λy1=>if (y1.2.2 != 0)=true then some ((⟨0,0,0,0⟩:Head),([]:O uA),y1.2.2) else (iB y1.1 4).bind λy2=>if (y2.2 != 0)=true then some ((⟨0,0,0,0⟩:Head),([]:O uA),y2.2) else ck ((0:Int)<=0/\0<(y2.1.length:Int)) (ck ((0:Int)<=1/\1<(y2.1.length:Int)) (ck ((0:Int)<=2/\2<(y2.1.length:Int)) ((iC (nth y2.1 (Int.toNat (0))) (nth y2.1 (Int.toNat (1))) (nth y2.1 (Int.toNat (2)))).bind λy3=>if (y3 != 0)=true then some ((⟨0,0,0,0⟩:Head),([]:O uA),y3) else ck ((0:Int)<=3/\3<(y2.1.length:Int)) (ck ((!(decide ((nth y2.1 (Int.toNat (3)))<0)))=true->((0:Int)<=3/\3<(y2.1.length:Int))) (if ((decide ((nth y2.1 (Int.toNat (3)))<0)) || (decide ((nth y2.1 (Int.toNat (3))) > 4096)))=true then some ((⟨0,0,0,0⟩:Head),([]:O uA),5) else ck ((0:Int)<=0/\0<(y2.1.length:Int)) (ck ((0:Int)<=1/\1<(y2.1.length:Int)) (ck ((0:Int)<=2/\2<(y2.1.length:Int)) (ck ((0:Int)<=3/\3<(y2.1.length:Int)) (some ((⟨nth y2.1 (Int.toNat (0)),nth y2.1 (Int.toNat (1)),nth y2.1 (Int.toNat (2)),nth y2.1 (Int.toNat (3))⟩:Head),y1.2.1,0))))))))))
def eU (nB:O (O uA)):J ((O (O uA))×Int) :=
 if (decide ((nB.length:Int) > 4096))=true then some (([]:O (O uA)),5) else some (nB,0)
def kA (bg:O uA) (kB:O (O uA)) (gF:Int) (bk:Int):J ((O (O uA)×Int×Int) ⊕ ((O (O uA))×Int)) :=
 if (decide (bk<(bg.length:Int)))=true then (ck ((0:Int)<=bk/\bk<(bg.length:Int)) (if ((nth bg bk.toNat)==10)=true then (ck ((0:Int)<=gF/\gF<=bk/\bk<=(bg.length:Int)) (ck (kB.length+([(bg.take bk.toNat).drop gF.toNat]:O (O uA)).length<=1000000000) (ck (bN (bk+1)) (ck (bN (bk+1)) (some (.inl (kB++([(bg.take bk.toNat).drop gF.toNat]:O (O uA)),bk+1,bk+1))))))) else ck (bN (bk+1)) (some (.inl (kB,gF,bk+1))))) else (eU kB).map (λz=>.inr z)
def mR (bg:O uA):J ((O (O uA))×Int) :=
 ck ((bg != ([]:O uA))=true->(bN ((bg.length:Int) - 1))) (ck ((bg != ([]:O uA))=true->((0:Int)<=((bg.length:Int) - 1)/\((bg.length:Int) - 1)<(bg.length:Int))) (if ((bg != ([]:O uA)) && ((nth bg ((bg.length:Int) - 1).toNat) != 10))=true then some (([]:O (O uA)),1) else loop (λs=>kA bg s.1 s.2.1 s.2.2) (([]:O (O uA)),0,0)))
def kC (bg:O uA) (mr:O (O uA)) (gG:Int) (ak:Int):J ((O (O uA)×Int×Int) ⊕ (O (O uA))) :=
 if (decide (ak<=(bg.length:Int)))=true then (ck ((!(ak==(bg.length:Int)))=true->((0:Int)<=ak/\ak<(bg.length:Int))) (if ((ak==(bg.length:Int)) || ((nth bg ak.toNat)==32))=true then (ck ((0:Int)<=gG/\gG<=ak/\ak<=(bg.length:Int)) (ck (mr.length+([(bg.take ak.toNat).drop gG.toNat]:O (O uA)).length<=1000000000) (ck (bN (ak+1)) (ck (bN (ak+1)) (some (.inl (mr++([(bg.take ak.toNat).drop gG.toNat]:O (O uA)),ak+1,ak+1))))))) else ck (bN (ak+1)) (some (.inl (mr,gG,ak+1))))) else some (.inr mr)
def mS (bg:O uA):J (O (O uA)) :=
 loop (λs=>kC bg s.1 s.2.1 s.2.2) (([]:O (O uA)),0,0)
def oE (bg:O uA):J Int :=
 if (bg==([118]:O uA))=true then some 1 else if (bg==([116]:O uA))=true then some 2 else if (bg==([100]:O uA))=true then some 3 else if (bg==([99]:O uA))=true then some 4 else some 0
def kD (bg:O uA) (bU:Int) (aq:Int):J ((Int×Int) ⊕ Int) :=
 if (decide (aq<(bg.length:Int)))=true then (ck ((0:Int)<=aq/\aq<(bg.length:Int)) (ck ((!(decide ((nth bg aq.toNat)<48)))=true->((0:Int)<=aq/\aq<(bg.length:Int))) (if ((decide ((nth bg aq.toNat)<48)) || (decide ((nth bg aq.toNat) > 57)))=true then some (.inr (-1)) else ck (bN (bU*10)) (ck ((0:Int)<=aq/\aq<(bg.length:Int)) (ck (bN ((bU*10)+(((nth bg aq.toNat) - 48).toNat:Int))) (ck (bN (aq+1)) (some (.inl ((bU*10)+(((nth bg aq.toNat) - 48).toNat:Int),aq+1))))))))) else some (.inr bU)
def dU (bg:O uA):J Int :=
 ck ((!((decide ((bg.length:Int)<1)) || (decide ((bg.length:Int) > 15))))=true->((0:Int)<=0/\0<(bg.length:Int))) (if (((decide ((bg.length:Int)<1)) || (decide ((bg.length:Int) > 15))) || (((nth bg (Int.toNat (0)))==48) && (decide ((bg.length:Int) > 1))))=true then some (-1) else loop (λs=>kD bg s.1 s.2) (0,0))
def eV (v0:O (O uA)) (y1:Int) (y2:Int) (y3:Int) (y4:Int) (y5:Int) (cU:O uA) (lV:Int) (lW:Int) (ni:Bool) (IM:Int) (ri:Int) (tc:Bool):J (aa×Bool) :=
 some ((⟨y2,y3,y1,nth v0 (Int.toNat (3)),cU,y4,y5,lV,lW,ni,ri,tc⟩:aa),(((IM==(v0.length:Int)) && (decide (y1 > 0))) && (!(((((((decide (y2<0)) || (decide (y3<0))) || (decide (y4<0))) || (decide (y5<0))) || (decide (lV<0))) || (decide (lW<0))) || (decide (ri<0))))))
def db (v0:O (O uA)) (y1:Int) (y2:Int) (y3:Int) (y4:Int) (y5:Int) (cU:O uA) (bB:Int) (lV:Int) (lW:Int) (ni:Bool):J (aa×Bool) :=
 ck (bN (bB+1)) (ck ((decide ((bB+1)<(v0.length:Int)))=true->((0:Int)<=bB/\bB<(v0.length:Int))) (ck (((decide ((bB+1)<(v0.length:Int))) && (!((nth v0 bB.toNat)==([105,110]:O uA))))=true->((0:Int)<=bB/\bB<(v0.length:Int))) (if ((decide ((bB+1)<(v0.length:Int))) && (((nth v0 bB.toNat)==([105,110]:O uA)) || ((nth v0 bB.toNat)==([111,117,116]:O uA))))=true then (ck ((0:Int)<=bB/\bB<(v0.length:Int)) (ck (bN (bB+1)) (ck ((0:Int)<=(bB+1)/\(bB+1)<(v0.length:Int)) ((dU (nth v0 (bB+1).toNat)).bind λy6=>ck (bN (bB+2)) (eV v0 y1 y2 y3 y4 y5 cU lV lW ni (bB+2) y6 ((nth v0 bB.toNat)==([105,110]:O uA))))))) else eV v0 y1 y2 y3 y4 y5 cU lV lW ni bB 0 false)))
def dz (v0:O (O uA)) (y1:Int) (y2:Int) (y3:Int) (y4:Int) (y5:Int) (cU:O uA):J (aa×Bool) :=
 ck (bN (7+2)) (ck ((decide ((7+2)<(v0.length:Int)))=true->((0:Int)<=7/\7<(v0.length:Int))) (if ((decide ((7+2)<(v0.length:Int))) && ((nth v0 (Int.toNat (7)))==([112,97,114,116]:O uA)))=true then (ck (bN (7+1)) (ck ((0:Int)<=(7+1)/\(7+1)<(v0.length:Int)) ((dU (nth v0 (Int.toNat (7+1)))).bind λy7=>ck (bN (7+2)) (ck ((0:Int)<=(7+2)/\(7+2)<(v0.length:Int)) ((dU (nth v0 (Int.toNat (7+2)))).bind λy8=>ck (bN (7+3)) (ck ((decide ((7+3)<(v0.length:Int)))=true->((0:Int)<=(7+3)/\(7+3)<(v0.length:Int))) (if ((decide ((7+3)<(v0.length:Int))) && ((nth v0 (Int.toNat (7+3)))==([108,97,115,116]:O uA)))=true then (ck (bN ((7+3)+1)) (db v0 y1 y2 y3 y4 y5 cU ((7+3)+1) y7 y8 true)) else db v0 y1 y2 y3 y4 y5 cU (7+3) y7 y8 false))))))) else db v0 y1 y2 y3 y4 y5 cU 7 0 0 false))
def mT (v0:O (O uA)):J (aa×Bool) :=
 ck ((!(decide ((v0.length:Int)<7)))=true->((0:Int)<=3/\3<(v0.length:Int))) (ck ((!((decide ((v0.length:Int)<7)) || (((nth v0 (Int.toNat (3))).length:Int)==0)))=true->((0:Int)<=4/\4<(v0.length:Int))) (if (((decide ((v0.length:Int)<7)) || (((nth v0 (Int.toNat (3))).length:Int)==0)) || (((nth v0 (Int.toNat (4))).length:Int)==0))=true then some ((⟨0,0,0,([]:O uA),([]:O uA),0,0,0,0,false,0,false⟩:aa),false) else ck ((0:Int)<=0/\0<(v0.length:Int)) ((oE (nth v0 (Int.toNat (0)))).bind λy1=>ck ((0:Int)<=1/\1<(v0.length:Int)) ((dU (nth v0 (Int.toNat (1)))).bind λy2=>ck ((0:Int)<=2/\2<(v0.length:Int)) ((dU (nth v0 (Int.toNat (2)))).bind λy3=>ck ((0:Int)<=3/\3<(v0.length:Int)) (ck ((0:Int)<=4/\4<(v0.length:Int)) (ck ((0:Int)<=5/\5<(v0.length:Int)) ((dU (nth v0 (Int.toNat (5)))).bind λy4=>ck ((0:Int)<=6/\6<(v0.length:Int)) ((dU (nth v0 (Int.toNat (6)))).bind λy5=>if ((nth v0 (Int.toNat (4)))==([45]:O uA))=true then (dz v0 y1 y2 y3 y4 y5 ([]:O uA)) else dz v0 y1 y2 y3 y4 y5 (nth v0 (Int.toNat (4))))))))))))
def iE (m8:Int) (Hp:Int) (B5:Int):J Bool :=
 some ((decide (m8>=Hp)) && (decide (m8<=B5)))
def eI (v0:aa):J Int :=
 (iE v0.source 1 99).bind λy1=>(eG (!(!y1)) (iE v0.aF 1 999999999)).bind λy2=>if ((!y1) || (!y2))=true then some 6 else (iE v0.kind 1 4).bind λy3=>if (!y3)=true then some 7 else (fq v0.a).bind λy4=>if (!y4)=true then some 12 else (fq v0.b).bind λy5=>if ((!y5) && ((v0.b != ([]:O uA)) || ((v0.kind != 3) && (v0.kind != 4))))=true then some 12 else (iE v0.start 0 12622780799).bind λy6=>if (!y6)=true then some 15 else (iE v0.aJ 0 1099511627776).bind λy7=>if ((!y7) || ((v0.kind==1) && (decide (v0.aJ > 604800))))=true then some 6 else ck ((v0.kind==1)=true->(bN (v0.start+v0.aJ))) (if ((v0.kind==1) && (decide ((v0.start+v0.aJ) > 12622780800)))=true then some 15 else (iE v0.call 0 999999999).bind λy8=>(eG (!(!y8)) (iE v0.part 0 99)).bind λy9=>if ((!y8) || (!y9))=true then some 6 else if (((v0.part==0) != (v0.call==0)) || (v0.last && (v0.part==0)))=true then some 8 else (iE v0.bh 0 999).bind λNf=>if (!Nf)=true then some 6 else if (v0.aP && (v0.bh==0))=true then some 8 else some 0)
def jR (qb:Int) (wO:O uA):J ((Int×O uA) ⊕ (O uA)) :=
 if (decide (qb > 0))=true then (ck (10≠(0:Int)) (ck (bN (48+(Int.tmod qb 10))) (ck (([UInt8.ofInt (48+(Int.tmod qb 10))]:O uA).length+wO.length<=9223372036854775807) (ck (10≠(0:Int)/\bN (Int.tdiv qb 10)) (some (.inl (Int.tdiv qb 10,([UInt8.ofInt (48+(Int.tmod qb 10))]:O uA)++wO))))))) else some (.inr wO)
def dd (m8:Int):J (O uA) :=
 ck (10≠(0:Int)) (ck (bN (48+(Int.tmod m8 10))) (ck (10≠(0:Int)/\bN (Int.tdiv m8 10)) (loop (λs=>jR s.1 s.2) (Int.tdiv m8 10,([UInt8.ofInt (48+(Int.tmod m8 10))]:O uA)))))
def ei (v0:aa) (Ab:O uA):J ((O uA)×Int) :=
 if ((decide (v0.bh > 0)) && (!v0.aP))=true then (ck (Ab.length+([32,111,117,116,32]:O uA).length<=9223372036854775807) ((dd v0.bh).bind λy6=>ck ((Ab++([32,111,117,116,32]:O uA)).length+y6.length<=9223372036854775807) (some ((Ab++([32,111,117,116,32]:O uA))++y6,0)))) else some (Ab,0)
def ej (v0:aa) (w4:O uA):J ((O uA)×Int) :=
 if ((decide (v0.bh > 0)) && v0.aP)=true then (ck (w4.length+([32,105,110,32]:O uA).length<=9223372036854775807) ((dd v0.bh).bind λy7=>ck ((w4++([32,105,110,32]:O uA)).length+y7.length<=9223372036854775807) (ei v0 ((w4++([32,105,110,32]:O uA))++y7)))) else ei v0 w4
def ek (v0:aa) (yB:O uA):J ((O uA)×Int) :=
 if v0.last=true then (ck (yB.length+([32,108,97,115,116]:O uA).length<=9223372036854775807) (ej v0 (yB++([32,108,97,115,116]:O uA)))) else ej v0 yB
def eo (v0:aa) (kE:O uA):J ((O uA)×Int) :=
 ck (bN (v0.kind-1)) (ck ((0:Int)<=v0.kind-1/\v0.kind-1<=v0.kind/\v0.kind<=(([118,116,100,99]:O uA).length:Int)) (ck (((([118,116,100,99]:O uA).take v0.kind.toNat).drop (v0.kind-1).toNat).length+([32]:O uA).length<=9223372036854775807) ((dd v0.source).bind λy2=>ck ((((([118,116,100,99]:O uA).take v0.kind.toNat).drop (v0.kind-1).toNat)++([32]:O uA)).length+y2.length<=9223372036854775807) (ck (((((([118,116,100,99]:O uA).take v0.kind.toNat).drop (v0.kind-1).toNat)++([32]:O uA))++y2).length+([32]:O uA).length<=9223372036854775807) ((dd v0.aF).bind λy3=>ck ((((((([118,116,100,99]:O uA).take v0.kind.toNat).drop (v0.kind-1).toNat)++([32]:O uA))++y2)++([32]:O uA)).length+y3.length<=9223372036854775807) (ck (((((((([118,116,100,99]:O uA).take v0.kind.toNat).drop (v0.kind-1).toNat)++([32]:O uA))++y2)++([32]:O uA))++y3).length+([32]:O uA).length<=9223372036854775807) (ck ((((((((([118,116,100,99]:O uA).take v0.kind.toNat).drop (v0.kind-1).toNat)++([32]:O uA))++y2)++([32]:O uA))++y3)++([32]:O uA)).length+v0.a.length<=9223372036854775807) (ck (((((((((([118,116,100,99]:O uA).take v0.kind.toNat).drop (v0.kind-1).toNat)++([32]:O uA))++y2)++([32]:O uA))++y3)++([32]:O uA))++v0.a).length+([32]:O uA).length<=9223372036854775807) (ck ((((((((((([118,116,100,99]:O uA).take v0.kind.toNat).drop (v0.kind-1).toNat)++([32]:O uA))++y2)++([32]:O uA))++y3)++([32]:O uA))++v0.a)++([32]:O uA)).length+kE.length<=9223372036854775807) (ck (((((((((((([118,116,100,99]:O uA).take v0.kind.toNat).drop (v0.kind-1).toNat)++([32]:O uA))++y2)++([32]:O uA))++y3)++([32]:O uA))++v0.a)++([32]:O uA))++kE).length+([32]:O uA).length<=9223372036854775807) ((dd v0.start).bind λy4=>ck ((((((((((((([118,116,100,99]:O uA).take v0.kind.toNat).drop (v0.kind-1).toNat)++([32]:O uA))++y2)++([32]:O uA))++y3)++([32]:O uA))++v0.a)++([32]:O uA))++kE)++([32]:O uA)).length+y4.length<=9223372036854775807) (ck (((((((((((((([118,116,100,99]:O uA).take v0.kind.toNat).drop (v0.kind-1).toNat)++([32]:O uA))++y2)++([32]:O uA))++y3)++([32]:O uA))++v0.a)++([32]:O uA))++kE)++([32]:O uA))++y4).length+([32]:O uA).length<=9223372036854775807) ((dd v0.aJ).bind λy5=>ck ((((((((((((((([118,116,100,99]:O uA).take v0.kind.toNat).drop (v0.kind-1).toNat)++([32]:O uA))++y2)++([32]:O uA))++y3)++([32]:O uA))++v0.a)++([32]:O uA))++kE)++([32]:O uA))++y4)++([32]:O uA)).length+y5.length<=9223372036854775807) (if (decide (v0.part > 0))=true then (ck (((((((((((((((([118,116,100,99]:O uA).take v0.kind.toNat).drop (v0.kind-1).toNat)++([32]:O uA))++y2)++([32]:O uA))++y3)++([32]:O uA))++v0.a)++([32]:O uA))++kE)++([32]:O uA))++y4)++([32]:O uA))++y5).length+([32,112,97,114,116,32]:O uA).length<=9223372036854775807) ((dd v0.call).bind λy8=>ck ((((((((((((((((([118,116,100,99]:O uA).take v0.kind.toNat).drop (v0.kind-1).toNat)++([32]:O uA))++y2)++([32]:O uA))++y3)++([32]:O uA))++v0.a)++([32]:O uA))++kE)++([32]:O uA))++y4)++([32]:O uA))++y5)++([32,112,97,114,116,32]:O uA)).length+y8.length<=9223372036854775807) (ck (((((((((((((((((([118,116,100,99]:O uA).take v0.kind.toNat).drop (v0.kind-1).toNat)++([32]:O uA))++y2)++([32]:O uA))++y3)++([32]:O uA))++v0.a)++([32]:O uA))++kE)++([32]:O uA))++y4)++([32]:O uA))++y5)++([32,112,97,114,116,32]:O uA))++y8).length+([32]:O uA).length<=9223372036854775807) ((dd v0.part).bind λy9=>ck ((((((((((((((((((([118,116,100,99]:O uA).take v0.kind.toNat).drop (v0.kind-1).toNat)++([32]:O uA))++y2)++([32]:O uA))++y3)++([32]:O uA))++v0.a)++([32]:O uA))++kE)++([32]:O uA))++y4)++([32]:O uA))++y5)++([32,112,97,114,116,32]:O uA))++y8)++([32]:O uA)).length+y9.length<=9223372036854775807) (ek v0 ((((((((((((((((((([118,116,100,99]:O uA).take v0.kind.toNat).drop (v0.kind-1).toNat)++([32]:O uA))++y2)++([32]:O uA))++y3)++([32]:O uA))++v0.a)++([32]:O uA))++kE)++([32]:O uA))++y4)++([32]:O uA))++y5)++([32,112,97,114,116,32]:O uA))++y8)++([32]:O uA))++y9)))))) else ek v0 ((((((((((((((([118,116,100,99]:O uA).take v0.kind.toNat).drop (v0.kind-1).toNat)++([32]:O uA))++y2)++([32]:O uA))++y3)++([32]:O uA))++v0.a)++([32]:O uA))++kE)++([32]:O uA))++y4)++([32]:O uA))++y5)))))))))))))))
def gw (v0:aa):J ((O uA)×Int) :=
 (eI v0).bind λy1=>if (y1 != 0)=true then some (([]:O uA),y1) else if (v0.b==([]:O uA))=true then (eo v0 ([45]:O uA)) else eo v0 v0.b
def kF (yC:O uA):J (aa×Int) :=
 (mS yC).bind λy1=>(mT y1).bind λy2=>if (!y2.2)=true then some ((⟨0,0,0,([]:O uA),([]:O uA),0,0,0,0,false,0,false⟩:aa),1) else (gw y2.1).bind λy3=>if (y3.2 != 0)=true then some ((⟨0,0,0,([]:O uA),([]:O uA),0,0,0,0,false,0,false⟩:aa),y3.2) else if (y3.1 != yC)=true then some ((⟨0,0,0,([]:O uA),([]:O uA),0,0,0,0,false,0,false⟩:aa),1) else some (y2.1,0)
def nC (fb:O aa) (ui:O aj):J ((O aa)×(O aj)×Int) :=
 some (fb,ui,0)
def nD (y1:(O (O uA))×Int) (cV:O aa) (oF:O aj) (a9:Int):J ((O aa×O aj×Int) ⊕ ((O aa)×(O aj)×Int)) :=
 if (decide (a9<(y1.1.length:Int)))=true then (ck ((0:Int)<=a9/\a9<(y1.1.length:Int)) ((kF (nth y1.1 a9.toNat)).bind λy2=>if (y2.2==0)=true then (ck (cV.length+([y2.1]:O aa).length<=1000000000) (ck (bN (a9+1)) (some (.inl (cV++([y2.1]:O aa),oF,a9+1))))) else ck (oF.length+([(⟨0,0,a9,y2.2⟩:aj)]:O aj).length<=1000000000) (ck (bN (a9+1)) (some (.inl (cV,oF++([(⟨0,0,a9,y2.2⟩:aj)]:O aj),a9+1)))))) else (nC cV oF).map (λz=>.inr z)
def qc (bg:O uA):J ((O aa)×(O aj)×Int) :=
 (mR bg).bind λy1=>if (y1.2 != 0)=true then some (([]:O aa),([]:O aj),y1.2) else loop (λs=>nD y1 s.1 s.2.1 s.2.2) (([]:O aa),([]:O aj),0)
def hG (v0:O uA) (B6:O Element) (da:Int) (bc:Int):J ((O Element×Int×Int) ⊕ ((O Element)×Int)) :=
 if (decide (bc<(v0.length:Int)))=true then (ck ((0:Int)<=bc/\bc<(v0.length:Int)) (if (((nth v0 bc.toNat).toNat:Int)==0)=true then some (.inr (([]:O Element),6)) else if (decide (((nth v0 bc.toNat).toNat:Int)<=da))=true then some (.inr (([]:O Element),9)) else ck (bN (bc+1)) (ck ((!((bc+1)==(v0.length:Int)))=true->(bN (bc+2))) (ck ((!((bc+1)==(v0.length:Int)))=true->(bN (bc+1))) (ck ((!((bc+1)==(v0.length:Int)))=true->((0:Int)<=(bc+1)/\(bc+1)<(v0.length:Int))) (ck ((!((bc+1)==(v0.length:Int)))=true->(bN ((bc+2)+((nth v0 (bc+1).toNat).toNat:Int)))) (if (((bc+1)==(v0.length:Int)) || (decide (((bc+2)+((nth v0 (bc+1).toNat).toNat:Int)) > (v0.length:Int))))=true then some (.inr (([]:O Element),2)) else ck (bN (bc+1)) (ck ((0:Int)<=(bc+1)/\(bc+1)<(v0.length:Int)) (ck (bN (bc+2)) (ck (bN (bc+2)) (ck (bN ((bc+2)+((nth v0 (bc+1).toNat).toNat:Int))) (ck ((0:Int)<=bc+2/\bc+2<=(bc+2)+((nth v0 (bc+1).toNat).toNat:Int)/\(bc+2)+((nth v0 (bc+1).toNat).toNat:Int)<=(v0.length:Int)) (ck (((v0.take ((bc+2)+((nth v0 (bc+1).toNat).toNat:Int)).toNat).drop (bc+2).toNat).length<=1000000000) (ck (B6.length+([(⟨((nth v0 bc.toNat).toNat:Int),(v0.take ((bc+2)+((nth v0 (bc+1).toNat).toNat:Int)).toNat).drop (bc+2).toNat⟩:Element)]:O Element).length<=1000000000) (ck (bN (bc+2)) (ck (bN ((bc+2)+((nth v0 (bc+1).toNat).toNat:Int))) (some (.inl (B6++([(⟨((nth v0 bc.toNat).toNat:Int),(v0.take ((bc+2)+((nth v0 (bc+1).toNat).toNat:Int)).toNat).drop (bc+2).toNat⟩:Element)]:O Element),((nth v0 bc.toNat).toNat:Int),(bc+2)+((nth v0 (bc+1).toNat).toNat:Int)))))))))))))))))))) else some (.inr (B6,0))
def iF (v0:O uA):J ((O Element)×Int) :=
 loop (λs=>hG v0 s.1 s.2.1 s.2.2) (([]:O Element),0,0)
def fi (aU:O uA) (sx:O uA):J ((O uA)×Int) :=
 (fq sx).bind λy1=>ck ((!(!y1))=true->(bN (2*(aU.length:Int)))) (ck ((!(!y1))=true->(bN ((2*(aU.length:Int)) - (sx.length:Int)))) (if ((!y1) || (decide (((2*(aU.length:Int)) - (sx.length:Int)) > 1)))=true then some (([]:O uA),12) else some (sx,0)))
def fj (aU:O uA) (rH:O uA) (ak:Int):J ((O uA×Int) ⊕ ((O uA)×Int)) :=
 if ((decide (ak<(aU.length:Int))) && (decide (ak<=15)))=true then (ck ((0:Int)<=ak/\ak<(aU.length:Int)) (ck ((0:Int)<=4) (ck ((0:Int)<=ak/\ak<(aU.length:Int)) (ck (rH.length+([48+(np (nth aU ak.toNat) 4)]:O uA).length<=9223372036854775807) (ck ((!(((nth aU ak.toNat) &&& 15) != 15))=true->(bN ((aU.length:Int) - 1))) (if ((((nth aU ak.toNat) &&& 15) != 15) || (decide (ak<((aU.length:Int) - 1))))=true then (ck ((rH++([48+(np (nth aU ak.toNat) 4)]:O uA)).length+([48+((nth aU ak.toNat) &&& 15)]:O uA).length<=9223372036854775807) (ck (bN (ak+1)) (some (.inl ((rH++([48+(np (nth aU ak.toNat) 4)]:O uA))++([48+((nth aU ak.toNat) &&& 15)]:O uA),ak+1))))) else ck (bN (ak+1)) (some (.inl (rH++([48+(np (nth aU ak.toNat) 4)]:O uA),ak+1))))))))) else (fi aU rH).map (λz=>.inr z)
def kG (aU:O uA):J ((O uA)×Int) :=
 loop (λs=>fj aU s.1 s.2) (([]:O uA),0)
def jS (aU:O uA) (bU:Int) (aq:Int):J ((Int×Int) ⊕ Int) :=
 if (decide (aq<(aU.length:Int)))=true then (ck (bN (bU*256)) (ck ((0:Int)<=aq/\aq<(aU.length:Int)) (ck (bN ((bU*256)+((nth aU aq.toNat).toNat:Int))) (ck (bN (aq+1)) (some (.inl ((bU*256)+((nth aU aq.toNat).toNat:Int),aq+1))))))) else some (.inr bU)
def kH (aU:O uA):J Int :=
 ck ((!((decide ((aU.length:Int)<1)) || (decide ((aU.length:Int) > 6))))=true->((0:Int)<=0/\0<(aU.length:Int))) (if (((decide ((aU.length:Int)<1)) || (decide ((aU.length:Int) > 6))) || ((nth aU (Int.toNat (0)))==0))=true then some (-1) else loop (λs=>jS aU s.1 s.2) (0,0))
def fS (v0:aa) (y1:(O uA)×Int) (wc:O uA) (we:O uA):J (aa×Bool) :=
 some ((⟨v0.source,v0.aF,v0.kind,wc,we,v0.start,v0.aJ,v0.call,v0.part,v0.last,v0.bh,v0.aP⟩:aa),(y1.2==0))
def cj (v0:aa) (v1:Element) (y2:Int) (dn:Int) (kI:Int) (kJ:Int) (kK:Int) (kL:Int) (kM:Int) (kN:Int) (hH:Int):J (aa×Bool) :=
 some ((⟨dn,kI,kJ,v0.a,v0.b,kK,kL,kM,kN,v0.last,hH,v0.aP⟩:aa),((decide (y2 > 0)) && (decide (v1.tag<=11))))
def mU (v0:aa) (v1:Element):J (aa×Bool) :=
 if ((v1.tag==4) || (v1.tag==5))=true then ((kG v1.value).bind λy1=>if (v1.tag==4)=true then (fS v0 y1 y1.1 v0.b) else fS v0 y1 v0.a y1.1) else (kH v1.value).bind λy2=>if (v1.tag==1)=true then (cj v0 v1 y2 v0.source v0.aF y2 v0.start v0.aJ v0.call v0.part v0.bh) else if (v1.tag==2)=true then (cj v0 v1 y2 y2 v0.aF v0.kind v0.start v0.aJ v0.call v0.part v0.bh) else if (v1.tag==3)=true then (cj v0 v1 y2 v0.source y2 v0.kind v0.start v0.aJ v0.call v0.part v0.bh) else if (v1.tag==6)=true then (cj v0 v1 y2 v0.source v0.aF v0.kind y2 v0.aJ v0.call v0.part v0.bh) else if (v1.tag==7)=true then (cj v0 v1 y2 v0.source v0.aF v0.kind v0.start y2 v0.call v0.part v0.bh) else if (v1.tag==8)=true then (cj v0 v1 y2 v0.source v0.aF v0.kind v0.start v0.aJ y2 v0.part v0.bh) else if (v1.tag==9)=true then (cj v0 v1 y2 v0.source v0.aF v0.kind v0.start v0.aJ v0.call y2 v0.bh) else if (v1.tag==10)=true then (cj v0 v1 y2 v0.source v0.aF v0.kind v0.start v0.aJ v0.call v0.part y2) else if (v1.tag==11)=true then (ck (2≠(0:Int)) (some ((⟨v0.source,v0.aF,v0.kind,v0.a,v0.b,v0.start,v0.aJ,v0.call,v0.part,((Int.tmod y2 2)==1),v0.bh,decide (y2>=2)⟩:aa),((((v1.value.length:Int)==1) && (decide (y2>=1))) && (decide (y2<=3)))))) else cj v0 v1 y2 v0.source v0.aF v0.kind v0.start v0.aJ v0.call v0.part v0.bh
def gH (ct:Bool) (kO:Int) (kP:Int) (kQ:Int) (kR:O uA) (cU:O uA) (kS:Int) (kT:Int) (uj:Int) (uk:Int) (um:Bool) (hO:Int) (hP:Bool):J (aa×Int) :=
 if (!ct)=true then some ((⟨0,0,0,([]:O uA),([]:O uA),0,0,0,0,false,0,false⟩:aa),1) else (eI (⟨kO,kP,kQ,kR,cU,kS,kT,uj,uk,um,hO,hP⟩:aa)).bind λy2=>if (y2 != 0)=true then some ((⟨0,0,0,([]:O uA),([]:O uA),0,0,0,0,false,0,false⟩:aa),y2) else some ((⟨kO,kP,kQ,kR,cU,kS,kT,uj,uk,um,hO,hP⟩:aa),0)
def gI (y1:(O Element)×Int) (aW:Bool) (bu:Int) (ch:Int) (bz:Int) (bA:Int) (bP:O uA) (bQ:O uA) (bR:Int) (fT:Int) (rk:Int) (rl:Int) (rm:Bool) (fM:Int) (fN:Bool):J ((Bool×Int×Int×Int×Int×O uA×O uA×Int×Int×Int×Int×Bool×Int×Bool) ⊕ (aa×Int)) :=
 if (decide (bu<(y1.1.length:Int)))=true then (ck ((0:Int)<=bu/\bu<(y1.1.length:Int)) ((mU (⟨ch,bz,bA,bP,bQ,bR,fT,rk,rl,rm,fM,fN⟩:aa) (nth y1.1 bu.toNat)).bind λy3=>ck (bN (bu+1)) (some (.inl ((aW && y3.2),bu+1,y3.1.source,y3.1.aF,y3.1.kind,y3.1.a,y3.1.b,y3.1.start,y3.1.aJ,y3.1.call,y3.1.part,y3.1.last,y3.1.bh,y3.1.aP))))) else (gH aW ch bz bA bP bQ bR fT rk rl rm fM fN).map (λz=>.inr z)
def kU (v0:O uA):J (aa×Int) :=
 ck ((!(decide ((v0.length:Int)<2)))=true->(bN ((v0.length:Int) - 2))) (ck ((!(decide ((v0.length:Int)<2)))=true->((0:Int)<=0/\0<(v0.length:Int))) (ck ((!(decide ((v0.length:Int)<2)))=true->(bN (((nth v0 (Int.toNat (0))).toNat:Int)*256))) (ck ((!(decide ((v0.length:Int)<2)))=true->((0:Int)<=1/\1<(v0.length:Int))) (ck ((!(decide ((v0.length:Int)<2)))=true->(bN ((((nth v0 (Int.toNat (0))).toNat:Int)*256)+((nth v0 (Int.toNat (1))).toNat:Int)))) (if ((decide ((v0.length:Int)<2)) || (decide (((v0.length:Int) - 2)<((((nth v0 (Int.toNat (0))).toNat:Int)*256)+((nth v0 (Int.toNat (1))).toNat:Int)))))=true then some ((⟨0,0,0,([]:O uA),([]:O uA),0,0,0,0,false,0,false⟩:aa),2) else ck (bN ((v0.length:Int) - 2)) (ck ((0:Int)<=0/\0<(v0.length:Int)) (ck (bN (((nth v0 (Int.toNat (0))).toNat:Int)*256)) (ck ((0:Int)<=1/\1<(v0.length:Int)) (ck (bN ((((nth v0 (Int.toNat (0))).toNat:Int)*256)+((nth v0 (Int.toNat (1))).toNat:Int))) (if (decide (((v0.length:Int) - 2) > ((((nth v0 (Int.toNat (0))).toNat:Int)*256)+((nth v0 (Int.toNat (1))).toNat:Int))))=true then some ((⟨0,0,0,([]:O uA),([]:O uA),0,0,0,0,false,0,false⟩:aa),3) else ck ((0:Int)<=(2:Int)/\(2:Int)<=(v0.length:Int)) ((iF (v0.drop ((2:Int)).toNat)).bind λy1=>if (y1.2 != 0)=true then some ((⟨0,0,0,([]:O uA),([]:O uA),0,0,0,0,false,0,false⟩:aa),y1.2) else loop (λs=>gI y1 s.1 s.2.1 s.2.2.1 s.2.2.2.1 s.2.2.2.2.1 s.2.2.2.2.2.1 s.2.2.2.2.2.2.1 s.2.2.2.2.2.2.2.1 s.2.2.2.2.2.2.2.2.1 s.2.2.2.2.2.2.2.2.2.1 s.2.2.2.2.2.2.2.2.2.2.1 s.2.2.2.2.2.2.2.2.2.2.2.1 s.2.2.2.2.2.2.2.2.2.2.2.2.1 s.2.2.2.2.2.2.2.2.2.2.2.2.2) (true,0,0,0,0,([]:O uA),([]:O uA),0,0,0,0,false,0,false))))))))))))
def nE (u7:O aa) (kE:O aj):J ((O aa)×(O aj)×Int) :=
 some (u7,kE,0)
def gx (v0:O uA) (aW:Int) (bu:Int) (bB:O aa) (F9:O aj) (dn:Int) (kI:Int) (kJ:Int) (yD:O uA) (yE:O uA) (kK:Int) (kL:Int) (kM:Int) (kN:Int) (yF:Bool) (hH:Int) (va:Bool):J ((O aa×O aj×Int×Int) ⊕ ((O aa)×(O aj)×Int)) :=
 ck (bN (bu+1)) (some (.inl (bB,F9,((aW+2)+(((nth v0 aW.toNat).toNat:Int)*256))+((nth v0 (aW+1).toNat).toNat:Int),bu+1)))
def nF (v0:O uA) (da:O aa) (bc:O aj) (aW:Int) (bu:Int):J ((O aa×O aj×Int×Int) ⊕ ((O aa)×(O aj)×Int)) :=
 if (decide (aW<(v0.length:Int)))=true then (if (bu==4096)=true then some (.inr (([]:O aa),([]:O aj),5)) else ck (bN (aW+2)) (ck ((!(decide ((aW+2) > (v0.length:Int))))=true->(bN (aW+2))) (ck ((!(decide ((aW+2) > (v0.length:Int))))=true->((0:Int)<=aW/\aW<(v0.length:Int))) (ck ((!(decide ((aW+2) > (v0.length:Int))))=true->(bN (((nth v0 aW.toNat).toNat:Int)*256))) (ck ((!(decide ((aW+2) > (v0.length:Int))))=true->(bN ((aW+2)+(((nth v0 aW.toNat).toNat:Int)*256)))) (ck ((!(decide ((aW+2) > (v0.length:Int))))=true->(bN (aW+1))) (ck ((!(decide ((aW+2) > (v0.length:Int))))=true->((0:Int)<=(aW+1)/\(aW+1)<(v0.length:Int))) (ck ((!(decide ((aW+2) > (v0.length:Int))))=true->(bN (((aW+2)+(((nth v0 aW.toNat).toNat:Int)*256))+((nth v0 (aW+1).toNat).toNat:Int)))) (if ((decide ((aW+2) > (v0.length:Int))) || (decide ((((aW+2)+(((nth v0 aW.toNat).toNat:Int)*256))+((nth v0 (aW+1).toNat).toNat:Int)) > (v0.length:Int))))=true then some (.inr (([]:O aa),([]:O aj),2)) else ck (bN (aW+2)) (ck ((0:Int)<=aW/\aW<(v0.length:Int)) (ck (bN (((nth v0 aW.toNat).toNat:Int)*256)) (ck (bN ((aW+2)+(((nth v0 aW.toNat).toNat:Int)*256))) (ck (bN (aW+1)) (ck ((0:Int)<=(aW+1)/\(aW+1)<(v0.length:Int)) (ck (bN (((aW+2)+(((nth v0 aW.toNat).toNat:Int)*256))+((nth v0 (aW+1).toNat).toNat:Int))) (ck ((0:Int)<=aW/\aW<=((aW+2)+(((nth v0 aW.toNat).toNat:Int)*256))+((nth v0 (aW+1).toNat).toNat:Int)/\((aW+2)+(((nth v0 aW.toNat).toNat:Int)*256))+((nth v0 (aW+1).toNat).toNat:Int)<=(v0.length:Int)) ((kU ((v0.take (((aW+2)+(((nth v0 aW.toNat).toNat:Int)*256))+((nth v0 (aW+1).toNat).toNat:Int)).toNat).drop aW.toNat)).bind λy1=>if (y1.2==0)=true then (ck (da.length+([y1.1]:O aa).length<=1000000000) (gx v0 aW bu (da++([y1.1]:O aa)) bc y1.1.source y1.1.aF y1.1.kind y1.1.a y1.1.b y1.1.start y1.1.aJ y1.1.call y1.1.part y1.1.last y1.1.bh y1.1.aP)) else ck (bc.length+([(⟨0,0,bu,y1.2⟩:aj)]:O aj).length<=1000000000) (gx v0 aW bu da (bc++([(⟨0,0,bu,y1.2⟩:aj)]:O aj)) y1.1.source y1.1.aF y1.1.kind y1.1.a y1.1.b y1.1.start y1.1.aJ y1.1.call y1.1.part y1.1.last y1.1.bh y1.1.aP)))))))))))))))))) else (nE da bc).map (λz=>.inr z)
def qd (v0:O uA):J ((O aa)×(O aj)×Int) :=
 loop (λs=>nF v0 s.1 s.2.1 s.2.2.1 s.2.2.2) (([]:O aa),([]:O aj),0,0)
def rn (aU:O uA) (bU:Int) (aq:Int):J ((Int×Int) ⊕ uA) :=
 if (decide (aq<(aU.length:Int)))=true then (ck ((0:Int)<=aq/\aq<(aU.length:Int)) (ck (bN (bU+((nth aU aq.toNat).toNat:Int))) (ck (256≠(0:Int)) (ck (bN (aq+1)) (some (.inl (Int.tmod (bU+((nth aU aq.toNat).toNat:Int)) 256,aq+1))))))) else some (.inr (UInt8.ofInt bU))
def qe (aU:O uA):J uA :=
 loop (λs=>rn aU s.1 s.2) (0,0)
def lX (aU:O uA) (rJ:Int) (ak:Int):J ((Int×Int) ⊕ (Int×Int)) :=
 if (decide (ak<(aU.length:Int)))=true then (ck ((0:Int)<=ak/\ak<(aU.length:Int)) (ck (16≠(0:uA)) (ck ((!(decide (((nth aU ak.toNat) / 16) > 9)))=true->((0:Int)<=ak/\ak<(aU.length:Int))) (ck ((!(decide (((nth aU ak.toNat) / 16) > 9)))=true->(16≠(0:uA))) (if ((decide (((nth aU ak.toNat) / 16) > 9)) || (decide (((nth aU ak.toNat) % 16) > 9)))=true then some (.inr (0,1)) else ck (bN (rJ*100)) (ck ((0:Int)<=ak/\ak<(aU.length:Int)) (ck (16≠(0:uA)) (ck (bN ((((nth aU ak.toNat) / 16).toNat:Int)*10)) (ck (bN ((rJ*100)+((((nth aU ak.toNat) / 16).toNat:Int)*10))) (ck ((0:Int)<=ak/\ak<(aU.length:Int)) (ck (16≠(0:uA)) (ck (bN (((rJ*100)+((((nth aU ak.toNat) / 16).toNat:Int)*10))+(((nth aU ak.toNat) % 16).toNat:Int))) (ck (bN (ak+1)) (some (.inl (((rJ*100)+((((nth aU ak.toNat) / 16).toNat:Int)*10))+(((nth aU ak.toNat) % 16).toNat:Int),ak+1)))))))))))))))) else some (.inr (rJ,0))
def jF (aU:O uA):J (Int×Int) :=
 if ((decide ((aU.length:Int)<1)) || (decide ((aU.length:Int) > 9)))=true then some (0,6) else loop (λs=>lX aU s.1 s.2) (0,0)
def eJ (aU:O uA) (oG:O uA) (dt:Int) (kV:uA):J ((O uA×Int) ⊕ ((O uA)×Bool)) :=
 if (((decide (dt<=(((nth aU (Int.toNat (0))) / 16).toNat:Int))) && (decide (kV > 9))) || ((decide (dt > (((nth aU (Int.toNat (0))) / 16).toNat:Int))) && (kV != 0)))=true then some (.inr (([]:O uA),false)) else if (decide (dt<=(((nth aU (Int.toNat (0))) / 16).toNat:Int)))=true then (ck (oG.length+([48+kV]:O uA).length<=9223372036854775807) (ck (bN (dt+1)) (some (.inl (oG++([48+kV]:O uA),dt+1))))) else ck (bN (dt+1)) (some (.inl (oG,dt+1)))
def pG (aU:O uA) (oG:O uA) (dt:Int):J ((O uA×Int) ⊕ ((O uA)×Bool)) :=
 if (decide (dt<=15))=true then (ck (2≠(0:Int)/\bN (Int.tdiv dt 2)) (ck ((0:Int)<=(Int.tdiv dt 2)/\(Int.tdiv dt 2)<(aU.length:Int)) (ck (16≠(0:uA)) (ck (2≠(0:Int)) (if ((Int.tmod dt 2)==1)=true then (ck (2≠(0:Int)/\bN (Int.tdiv dt 2)) (ck ((0:Int)<=(Int.tdiv dt 2)/\(Int.tdiv dt 2)<(aU.length:Int)) (ck (16≠(0:uA)) (eJ aU oG dt ((nth aU (Int.tdiv dt 2).toNat) % 16))))) else eJ aU oG dt ((nth aU (Int.tdiv dt 2).toNat) / 16)))))) else some (.inr (oG,true))
def lY (aU:O uA):J ((O uA)×Bool) :=
 ck ((0:Int)<=0/\0<(aU.length:Int)) (ck (16≠(0:uA)) (loop (λs=>pG aU s.1 s.2) (([]:O uA),1)))
def gJ (v0:O uA) (ct:O Int) (sy:Bool):J (aa×Int) :=
 ck ((0:Int)<=(7:Int)/\(7:Int)<=(15:Int)/\(15:Int)<=(v0.length:Int)) ((lY ((v0.take ((15:Int)).toNat).drop ((7:Int)).toNat)).bind λy2=>ck ((0:Int)<=(15:Int)/\(15:Int)<=(23:Int)/\(23:Int)<=(v0.length:Int)) ((lY ((v0.take ((23:Int)).toNat).drop ((15:Int)).toNat)).bind λy3=>if (((!sy) || (!y2.2)) || (!y3.2))=true then some ((⟨0,0,0,([]:O uA),([]:O uA),0,0,0,0,false,0,false⟩:aa),1) else ck ((0:Int)<=0/\0<(ct.length:Int)) (ck ((0:Int)<=1/\1<(ct.length:Int)) (ck ((0:Int)<=6/\6<(v0.length:Int)) (ck (16≠(0:uA)) (ck ((0:Int)<=2/\2<(ct.length:Int)) (ck ((0:Int)<=3/\3<(ct.length:Int)) (ck ((0:Int)<=4/\4<(ct.length:Int)) (ck ((0:Int)<=5/\5<(ct.length:Int)) (ck ((0:Int)<=6/\6<(ct.length:Int)) (ck ((0:Int)<=6/\6<(v0.length:Int)) (ck (2≠(0:uA)) (ck ((0:Int)<=6/\6<(v0.length:Int)) (ck (16≠(0:uA)) ((eI (⟨nth ct (Int.toNat (0)),nth ct (Int.toNat (1)),(((nth v0 (Int.toNat (6))) / 16).toNat:Int),y2.1,y3.1,nth ct (Int.toNat (2)),nth ct (Int.toNat (3)),nth ct (Int.toNat (4)),nth ct (Int.toNat (5)),(((nth v0 (Int.toNat (6))) % 2)==1),nth ct (Int.toNat (6)),decide (((nth v0 (Int.toNat (6))) % 16)>=2)⟩:aa)).bind λy4=>if (y4 != 0)=true then some ((⟨0,0,0,([]:O uA),([]:O uA),0,0,0,0,false,0,false⟩:aa),y4) else some ((⟨nth ct (Int.toNat (0)),nth ct (Int.toNat (1)),(((nth v0 (Int.toNat (6))) / 16).toNat:Int),y2.1,y3.1,nth ct (Int.toNat (2)),nth ct (Int.toNat (3)),nth ct (Int.toNat (4)),nth ct (Int.toNat (5)),(((nth v0 (Int.toNat (6))) % 2)==1),nth ct (Int.toNat (6)),decide (((nth v0 (Int.toNat (6))) % 16)>=2)⟩:aa),0))))))))))))))))
def de (v0:O uA) (aW:O Int) (bu:Bool) (fw:Int):J ((O Int×Bool×Int) ⊕ (aa×Int)) :=
 if (decide (fw<(([0,1,23,29,36,41,42]:O Int).length:Int)))=true then (ck ((0:Int)<=fw/\fw<(([0,1,23,29,36,41,42]:O Int).length:Int)) (ck ((0:Int)<=fw/\fw<(([1,6,29,36,41,42,44]:O Int).length:Int)) (ck ((0:Int)<=nth ([0,1,23,29,36,41,42]:O Int) fw.toNat/\nth ([0,1,23,29,36,41,42]:O Int) fw.toNat<=nth ([1,6,29,36,41,42,44]:O Int) fw.toNat/\nth ([1,6,29,36,41,42,44]:O Int) fw.toNat<=(v0.length:Int)) ((jF ((v0.take (Int.toNat (nth ([1,6,29,36,41,42,44]:O Int) fw.toNat))).drop (Int.toNat (nth ([0,1,23,29,36,41,42]:O Int) fw.toNat)))).bind λy5=>ck (aW.length+([y5.1]:O Int).length<=1000000000) (ck (bN (fw+1)) (some (.inl (aW++([y5.1]:O Int),(bu && (y5.2==0)),fw+1)))))))) else (gJ v0 aW bu).map (λz=>.inr z)
def kW (v0:O uA):J (aa×Int) :=
 if (decide ((v0.length:Int)<45))=true then some ((⟨0,0,0,([]:O uA),([]:O uA),0,0,0,0,false,0,false⟩:aa),2) else if (decide ((v0.length:Int) > 45))=true then some ((⟨0,0,0,([]:O uA),([]:O uA),0,0,0,0,false,0,false⟩:aa),3) else ck ((0:Int)<=(44:Int)/\(44:Int)<=(v0.length:Int)) ((qe (v0.take ((44:Int)).toNat)).bind λy1=>ck ((0:Int)<=44/\44<(v0.length:Int)) (if (y1 != (nth v0 (Int.toNat (44))))=true then some ((⟨0,0,0,([]:O uA),([]:O uA),0,0,0,0,false,0,false⟩:aa),4) else ck ((0:Int)<=6/\6<(v0.length:Int)) (ck (16≠(0:uA)) (loop (λs=>de v0 s.1 s.2.1 s.2.2) (([]:O Int),decide (((nth v0 (Int.toNat (6))) % 16)<=3),0)))))
def nG (fc:O aa) (uq:O aj):J ((O aa)×(O aj)×Int) :=
 some (fc,uq,0)
def nH (aU:O uA) (bZ:O aa) (oH:O aj) (bn:Int):J ((O aa×O aj×Int) ⊕ ((O aa)×(O aj)×Int)) :=
 ck (45≠(0:Int)/\bN (Int.tdiv (aU.length:Int) 45)) (if (decide (bn<(Int.tdiv (aU.length:Int) 45)))=true then (ck (bN (bn*45)) (ck (bN (bn+1)) (ck (bN ((bn+1)*45)) (ck ((0:Int)<=bn*45/\bn*45<=(bn+1)*45/\(bn+1)*45<=(aU.length:Int)) ((kW ((aU.take ((bn+1)*45).toNat).drop (bn*45).toNat)).bind λy1=>if (y1.2==0)=true then (ck (bZ.length+([y1.1]:O aa).length<=1000000000) (ck (bN (bn+1)) (some (.inl (bZ++([y1.1]:O aa),oH,bn+1))))) else ck (oH.length+([(⟨0,0,bn,y1.2⟩:aj)]:O aj).length<=1000000000) (ck (bN (bn+1)) (some (.inl (bZ,oH++([(⟨0,0,bn,y1.2⟩:aj)]:O aj),bn+1))))))))) else (nG bZ oH).map (λz=>.inr z))
def qf (aU:O uA):J ((O aa)×(O aj)×Int) :=
 ck (45≠(0:Int)) (if ((Int.tmod (aU.length:Int) 45) != 0)=true then some (([]:O aa),([]:O aj),2) else ck (45≠(0:Int)/\bN (Int.tdiv (aU.length:Int) 45)) (if (decide ((Int.tdiv (aU.length:Int) 45) > 4096))=true then some (([]:O aa),([]:O aj),5) else loop (λs=>nH aU s.1 s.2.1 s.2.2) (([]:O aa),([]:O aj),0)))
def qg (sA:Int) (pj:O uA):J ((O aa)×(O aj)×Int) :=
 if (sA==1)=true then ((qc pj).bind λy1=>some (y1.1,y1.2.1,y1.2.2)) else if (sA==2)=true then ((qd pj).bind λy2=>some (y2.1,y2.2.1,y2.2.2)) else (qf pj).bind λy3=>some (y3.1,y3.2.1,y3.2.2)
def jG (aU:O uA):J (cu×Int) :=
 (gr aU).bind λy1=>if (y1.2.2 != 0)=true then some ((⟨0,([0,0,0,0,0]:O Int)⟩:cu),y1.2.2) else if (decide ((y1.2.1.length:Int) > 0))=true then some ((⟨0,([0,0,0,0,0]:O Int)⟩:cu),3) else (iB y1.1 5).bind λy2=>if (y2.2 != 0)=true then some ((⟨0,([0,0,0,0,0]:O Int)⟩:cu),y2.2) else ck ((0:Int)<=0/\0<(y2.1.length:Int)) (ck ((0:Int)<=1/\1<(y2.1.length:Int)) (ck ((0:Int)<=2/\2<(y2.1.length:Int)) (ck ((0:Int)<=3/\3<(y2.1.length:Int)) (ck ((0:Int)<=4/\4<(y2.1.length:Int)) (some ((⟨nth y2.1 (Int.toNat (0)),([0,nth y2.1 (Int.toNat (1)),nth y2.1 (Int.toNat (2)),nth y2.1 (Int.toNat (3)),nth y2.1 (Int.toNat (4))]:O Int)⟩:cu),0))))))
def jT (aE:O aa) (aq:Int) (bz:Int) (bA:Int) (bP:Int) (bQ:Int) (bR:Int):J ((Int×Int×Int×Int×Int×Int) ⊕ cu) :=
 if (decide (aq<(aE.length:Int)))=true then (ck ((0:Int)<=aq/\aq<(aE.length:Int)) (if ((((decide (((nth aE aq.toNat).kind)>=1)) && (decide ((nth aE aq.toNat).kind<5))) && (decide (((nth aE aq.toNat).aJ)>=0))) && (decide (((nth aE aq.toNat).aJ)<=1099511627776)))=true then (ck ((0:Int)<=((nth aE aq.toNat).kind)/\((nth aE aq.toNat).kind)<(5:Int)) (ck (((nth aE aq.toNat).kind).toNat<5) (ck (bN ((nth ([bz,bA,bP,bQ,bR]:O Int) ((nth aE aq.toNat).kind).toNat)+((nth aE aq.toNat).aJ))) (ck ((0:Int)<=((nth aE aq.toNat).kind)/\((nth aE aq.toNat).kind)<(5:Int)) (ck (((nth aE aq.toNat).kind).toNat<5) (ck (bN (aq+1)) (some (.inl (aq+1,nth (pV ([bz,bA,bP,bQ,bR]:O Int) 5 ((nth aE aq.toNat).kind).toNat ((nth ([bz,bA,bP,bQ,bR]:O Int) ((nth aE aq.toNat).kind).toNat)+((nth aE aq.toNat).aJ))) 0,nth (pV ([bz,bA,bP,bQ,bR]:O Int) 5 ((nth aE aq.toNat).kind).toNat ((nth ([bz,bA,bP,bQ,bR]:O Int) ((nth aE aq.toNat).kind).toNat)+((nth aE aq.toNat).aJ))) 1,nth (pV ([bz,bA,bP,bQ,bR]:O Int) 5 ((nth aE aq.toNat).kind).toNat ((nth ([bz,bA,bP,bQ,bR]:O Int) ((nth aE aq.toNat).kind).toNat)+((nth aE aq.toNat).aJ))) 2,nth (pV ([bz,bA,bP,bQ,bR]:O Int) 5 ((nth aE aq.toNat).kind).toNat ((nth ([bz,bA,bP,bQ,bR]:O Int) ((nth aE aq.toNat).kind).toNat)+((nth aE aq.toNat).aJ))) 3,nth (pV ([bz,bA,bP,bQ,bR]:O Int) 5 ((nth aE aq.toNat).kind).toNat ((nth ([bz,bA,bP,bQ,bR]:O Int) ((nth aE aq.toNat).kind).toNat)+((nth aE aq.toNat).aJ))) 4))))))))) else ck (bN (aq+1)) (some (.inl (aq+1,bz,bA,bP,bQ,bR))))) else some (.inr (⟨(aE.length:Int),([bz,bA,bP,bQ,bR]:O Int)⟩:cu))
def kX (aE:O aa):J cu :=
 loop (λs=>jT aE s.1 s.2.1 s.2.2.1 s.2.2.2.1 s.2.2.2.2.1 s.2.2.2.2.2) (0,0,0,0,0,0)
def mu (y1:Head×(O uA)×Int) (y3:(O aa)×(O aj)×Int):J (Batch×(O aj)×Int) :=
 some ((⟨y1.1.source,y1.1.number,y1.1.format,y3.1⟩:Batch),y3.2.1,0)
def jH (y1:Head×(O uA)×Int) (y3:(O aa)×(O aj)×Int) (eW:Int):J (Int ⊕ (Batch×(O aj)×Int)) :=
 if (decide (eW<(y3.1.length:Int)))=true then (ck ((0:Int)<=eW/\eW<(y3.1.length:Int)) (if ((nth y3.1 eW.toNat).source != y1.1.source)=true then some (.inr ((⟨0,0,0,([]:O aa)⟩:Batch),([]:O aj),8)) else ck (bN (eW+1)) (some (.inl (eW+1))))) else (mu y1 y3).map (λz=>.inr z)
def oI (v0:O uA):J (Batch×(O aj)×Int) :=
 (mQ v0).bind λy1=>if (y1.2.2 != 0)=true then some ((⟨0,0,0,([]:O aa)⟩:Batch),([]:O aj),y1.2.2) else (gr y1.2.1).bind λy2=>if (y2.2.2 != 0)=true then some ((⟨0,0,0,([]:O aa)⟩:Batch),([]:O aj),y2.2.2) else (qg y1.1.format y2.1).bind λy3=>if (y3.2.2 != 0)=true then some ((⟨0,0,0,([]:O aa)⟩:Batch),([]:O aj),y3.2.2) else (jG y2.2.1).bind λy4=>if (y4.2 != 0)=true then some ((⟨0,0,0,([]:O aa)⟩:Batch),([]:O aj),y4.2) else (kX y3.1).bind λy5=>if ((!(jy (cu.j6 y4.1) (cu.j6 y5))) || (y1.1.count != (y3.1.length:Int)))=true then some ((⟨0,0,0,([]:O aa)⟩:Batch),([]:O aj),14) else loop (λs=>jH y1 y3 s) 0
def eX (aU:Batch) (aq:Int):J (Int ⊕ Int) :=
 if (decide (aq<(aU.records.length:Int)))=true then (ck ((0:Int)<=aq/\aq<(aU.records.length:Int)) ((eI (nth aU.records aq.toNat)).bind λy2=>if (y2 != 0)=true then some (.inr y2) else ck ((0:Int)<=aq/\aq<(aU.records.length:Int)) (if ((nth aU.records aq.toNat).source != aU.source)=true then some (.inr 8) else ck (bN (aq+1)) (some (.inl (aq+1)))))) else some (.inr 0)
def mV (aU:Batch):J Int :=
 (iC aU.source aU.number aU.format).bind λy1=>if (y1 != 0)=true then some y1 else if (decide ((aU.records.length:Int) > 4096))=true then some 5 else loop (λs=>eX aU s) 0
def mv (hU:O Head) (jj:Int) (oJ:Int) (A3:Int) (bO:Int):J ((Int×Int) ⊕ Int) :=
 if (decide (bO<jj))=true then (ck ((0:Int)<=bO/\bO<(hU.length:Int)) (if (((nth hU bO.toNat).source)==oJ)=true then (ck ((0:Int)<=bO/\bO<(hU.length:Int)) (ck (bN (((nth hU bO.toNat).number)+1)) (ck (bN (bO+1)) (some (.inl (((nth hU bO.toNat).number)+1,bO+1)))))) else ck (bN (bO+1)) (some (.inl (A3,bO+1))))) else some (.inr A3)
def oK (hU:O Head) (jj:Int) (oJ:Int):J Int :=
 loop (λs=>mv hU jj oJ s.1 s.2) (1,0)
def oL (IN:bE) (dV:Int):J Int :=
 if ((decide (dV<1)) || (decide (dV > 99)))=true then some 0 else (oK IN.aX (IN.aX.length:Int) dV).bind λy1=>some y1
def jh (MA:aa) (DU:bJ):J Int :=
 if ((decide (MA.start<DU.kt)) || (decide (MA.start > DU.ra)))=true then some 15 else some 0
def fU (iD:Int) (sB:Int):J Bool :=
 some ((((decide (iD>=1)) && (decide (iD<=99))) && (decide (sB>=1))) && (decide (sB<=999999999)))
def nI (bd:O Range) (dV:Int) (jI:Int) (bn:Int):J (Int ⊕ Bool) :=
 if (decide (bn<(bd.length:Int)))=true then (ck ((0:Int)<=bn/\bn<(bd.length:Int)) (ck ((((nth bd bn.toNat).source)==dV)=true->((0:Int)<=bn/\bn<(bd.length:Int))) (ck (((((nth bd bn.toNat).source)==dV) && (decide (((nth bd bn.toNat).from_)<=jI)))=true->((0:Int)<=bn/\bn<(bd.length:Int))) (if (((((nth bd bn.toNat).source)==dV) && (decide (((nth bd bn.toNat).from_)<=jI))) && (decide (jI<=((nth bd bn.toNat).qZ))))=true then ((fU dV jI).bind λy1=>some (.inr y1)) else ck (bN (bn+1)) (some (.inl (bn+1))))))) else some (.inr false)
def qh (bd:O Range) (dV:Int) (jI:Int):J Bool :=
 loop (λs=>nI bd dV jI s) 0
def kY (v1:Int) (sy:O Range) (A4:Bool) (rp:Int) (rq:Int):J ((O Range)×Bool) :=
 if (!A4)=true then (ck (sy.length+([(⟨v1,rp,rq⟩:Range)]:O Range).length<=1000000000) (some (sy++([(⟨v1,rp,rq⟩:Range)]:O Range),true))) else some (sy,true)
def nJ (v0:O Range) (v1:Int) (v2:Int) (bu:O Range) (cm:Bool) (ca:Int) (fE:Int) (fF:Int):J ((O Range×Bool×Int×Int×Int) ⊕ ((O Range)×Bool)) :=
 if (decide (ca<(v0.length:Int)))=true then (ck ((0:Int)<=ca/\ca<(v0.length:Int)) (ck ((((nth v0 ca.toNat).source)==v1)=true->(bN (((nth v0 ca.toNat).qZ)+1))) (if ((((nth v0 ca.toNat).source)==v1) && ((((nth v0 ca.toNat).qZ)+1)==v2))=true then (ck (bN (ca+1)) (some (.inl (bu,cm,ca+1,(nth v0 ca.toNat).from_,fF)))) else ck ((((nth v0 ca.toNat).source)==v1)=true->(bN ((nth v0 ca.toNat).from_ - 1))) (if ((((nth v0 ca.toNat).source)==v1) && (((nth v0 ca.toNat).from_ - 1)==v2))=true then (ck (bN (ca+1)) (some (.inl (bu,cm,ca+1,fE,(nth v0 ca.toNat).qZ)))) else if ((cm || (decide ((nth v0 ca.toNat).source<v1))) || ((((nth v0 ca.toNat).source)==v1) && (decide ((nth v0 ca.toNat).qZ<v2))))=true then (ck (bu.length+([nth v0 ca.toNat]:O Range).length<=1000000000) (ck (bN (ca+1)) (some (.inl (bu++([nth v0 ca.toNat]:O Range),cm,ca+1,fE,fF))))) else ck (bu.length+([(⟨v1,fE,fF⟩:Range),nth v0 ca.toNat]:O Range).length<=1000000000) (ck (bN (ca+1)) (some (.inl (bu++([(⟨v1,fE,fF⟩:Range),nth v0 ca.toNat]:O Range),true,ca+1,fE,fF)))))))) else (kY v1 bu cm fE fF).map (λz=>.inr z)
def qi (v0:O Range) (v1:Int) (v2:Int):J ((O Range)×Bool) :=
 (fU v1 v2).bind λy1=>(eG (!(!y1)) (qh v0 v1 v2)).bind λy2=>if ((!y1) || y2)=true then some (([]:O Range),false) else loop (λs=>nJ v0 v1 v2 s.1 s.2.1 s.2.2.1 s.2.2.2.1 s.2.2.2.2) (([]:O Range),false,0,v2,v2)
def kZ (re:aa) (pj:aa):J Bool :=
 if (re.source != pj.source)=true then some (decide (re.source<pj.source)) else if (re.call != pj.call)=true then some (decide (re.call<pj.call)) else some (decide (re.part<pj.part))
def gK (lZ:aa) (fc:O aa) (qj:Bool):J (O aa) :=
 if (!qj)=true then (ck (fc.length+([lZ]:O aa).length<=1000000000) (some (fc++([lZ]:O aa)))) else some fc
def fk (cl:O aa) (bn:Int) (nK:O aa) (qk:Bool):J ((O aa×Bool×Int) ⊕ (O aa)) :=
 ck ((0:Int)<=bn/\bn<(cl.length:Int)) (ck (nK.length+([nth cl bn.toNat]:O aa).length<=1000000000) (ck (bN (bn+1)) (some (.inl (nK++([nth cl bn.toNat]:O aa),qk,bn+1)))))
def jU (cl:O aa) (lZ:aa) (bZ:O aa) (iG:Bool) (bn:Int):J ((O aa×Bool×Int) ⊕ (O aa)) :=
 if (decide (bn<(cl.length:Int)))=true then (ck ((!iG)=true->((0:Int)<=bn/\bn<(cl.length:Int))) ((eG (!iG) (kZ lZ (nth cl bn.toNat))).bind λy1=>if ((!iG) && y1)=true then (ck (bZ.length+([lZ]:O aa).length<=1000000000) (fk cl bn (bZ++([lZ]:O aa)) true)) else fk cl bn bZ iG)) else (gK lZ bZ iG).map (λz=>.inr z)
def lf (cl:O aa) (lZ:aa):J (O aa) :=
 loop (λs=>jU cl lZ s.1 s.2.1 s.2.2) (([]:O aa),false,0)
def l8 (re:aa) (pj:aa):J Bool :=
 some ((re.source==pj.source) && (re.call==pj.call))
def jV (cl:O aa) (CQ:aa) (lP:Bool) (cV:O Int) (bO:Int):J ((O Int×Int) ⊕ (O Int)) :=
 if (decide (bO<(cl.length:Int)))=true then (ck ((0:Int)<=bO/\bO<(cl.length:Int)) ((l8 (nth cl bO.toNat) CQ).bind λy1=>ck (y1=true->((0:Int)<=bO/\bO<(cl.length:Int))) (ck (y1=true->(bN ((cV.length:Int)+1))) (if (y1 && (((nth cl bO.toNat).part)==((cV.length:Int)+1)))=true then (ck (cV.length+([bO]:O Int).length<=1000000000) (ck (lP=true->((0:Int)<=bO/\bO<(cl.length:Int))) (if (lP && (nth cl bO.toNat).last)=true then some (.inr (cV++([bO]:O Int))) else ck (bN (bO+1)) (some (.inl (cV++([bO]:O Int),bO+1)))))) else ck (bN (bO+1)) (some (.inl (cV,bO+1))))))) else some (.inr cV)
def lg (cl:O aa) (CQ:aa) (lP:Bool):J (O Int) :=
 loop (λs=>jV cl CQ lP s.1 s.2) (([]:O Int),0)
def mw (aM:O aa) (w5:O Int) (dK:O aa) (jJ:O aa) (po:Int) (a9:Int):J ((O aa×O aa×Int×Int) ⊕ ((O aa)×(O aa))) :=
 if (decide (a9<(aM.length:Int)))=true then (ck ((decide (po<(w5.length:Int)))=true->((0:Int)<=po/\po<(w5.length:Int))) (if ((decide (po<(w5.length:Int))) && ((nth w5 po.toNat)==a9))=true then (ck ((0:Int)<=a9/\a9<(aM.length:Int)) (ck (dK.length+([nth aM a9.toNat]:O aa).length<=1000000000) (ck (bN (po+1)) (ck (bN (a9+1)) (some (.inl (dK++([nth aM a9.toNat]:O aa),jJ,po+1,a9+1))))))) else ck ((0:Int)<=a9/\a9<(aM.length:Int)) (ck (jJ.length+([nth aM a9.toNat]:O aa).length<=1000000000) (ck (bN (a9+1)) (some (.inl (dK,jJ++([nth aM a9.toNat]:O aa),po,a9+1))))))) else some (.inr (dK,jJ))
def oM (aM:O aa) (w5:O Int):J ((O aa)×(O aa)) :=
 loop (λs=>mw aM w5 s.1 s.2.1 s.2.2.1 s.2.2.2) (([]:O aa),([]:O aa),0,0)
def fx (MA:aa):J Int :=
 (eI MA).bind λy1=>some y1
def iH (v0:O aa) (kO:Int) (kP:Int) (kQ:Int) (kR:O uA) (cU:O uA) (kS:Int) (kT:Int) (hO:Int) (hP:Bool):J (aa×Bool) :=
 some ((⟨kO,kP,kQ,kR,cU,kS,kT,0,0,false,hO,hP⟩:aa),decide ((v0.length:Int) > 0))
def lh (v0:O aa) (da:Int) (ch:Int) (bz:Int) (bA:Int) (bP:O uA) (bQ:O uA) (bR:Int) (fT:Int) (fM:Int) (fN:Bool):J ((Int×Int×Int×Int×O uA×O uA×Int×Int×Int×Bool) ⊕ (aa×Bool)) :=
 if (decide (da<(v0.length:Int)))=true then (ck ((0:Int)<=da/\da<(v0.length:Int)) ((eG (!(((nth v0 da.toNat).part)==0)) (fx (nth v0 da.toNat))).bind λy1=>if ((((nth v0 da.toNat).part)==0) || (y1 != 0))=true then some (.inr ((⟨0,0,0,([]:O uA),([]:O uA),0,0,0,0,false,0,false⟩:aa),false)) else ck (bN (fT+((nth v0 da.toNat).aJ))) (ck ((0:Int)<=0/\0<(v0.length:Int)) ((l8 (nth v0 da.toNat) (nth v0 (Int.toNat (0)))).bind λy2=>if ((((((!y2) || ((nth v0 da.toNat).kind != (nth v0 (Int.toNat (0))).kind)) || ((nth v0 da.toNat).a != (nth v0 (Int.toNat (0))).a)) || ((nth v0 da.toNat).b != (nth v0 (Int.toNat (0))).b)) || ((nth v0 da.toNat).bh != (nth v0 (Int.toNat (0))).bh)) || ((nth v0 da.toNat).aP != (nth v0 (Int.toNat (0))).aP))=true then some (.inr ((⟨0,0,0,([]:O uA),([]:O uA),0,0,0,0,false,0,false⟩:aa),false)) else (fx (⟨(nth v0 (Int.toNat (0))).source,(nth v0 (Int.toNat (0))).aF,(nth v0 (Int.toNat (0))).kind,(nth v0 (Int.toNat (0))).a,(nth v0 (Int.toNat (0))).b,(nth v0 (Int.toNat (0))).start,fT+((nth v0 da.toNat).aJ),0,0,false,(nth v0 (Int.toNat (0))).bh,(nth v0 (Int.toNat (0))).aP⟩:aa)).bind λy3=>if (y3 != 0)=true then some (.inr ((⟨0,0,0,([]:O uA),([]:O uA),0,0,0,0,false,0,false⟩:aa),false)) else ck (bN (da+1)) (some (.inl (da+1,(nth v0 (Int.toNat (0))).source,(nth v0 (Int.toNat (0))).aF,(nth v0 (Int.toNat (0))).kind,(nth v0 (Int.toNat (0))).a,(nth v0 (Int.toNat (0))).b,(nth v0 (Int.toNat (0))).start,fT+((nth v0 da.toNat).aJ),(nth v0 (Int.toNat (0))).bh,(nth v0 (Int.toNat (0))).aP))))))) else (iH v0 ch bz bA bP bQ bR fT fM fN).map (λz=>.inr z)
def kf (v0:O aa):J (aa×Bool) :=
 loop (λs=>lh v0 s.1 s.2.1 s.2.2.1 s.2.2.2.1 s.2.2.2.2.1 s.2.2.2.2.2.1 s.2.2.2.2.2.2.1 s.2.2.2.2.2.2.2.1 s.2.2.2.2.2.2.2.2.1 s.2.2.2.2.2.2.2.2.2) (0,0,0,0,([]:O uA),([]:O uA),0,0,0,false)
def fz (cY:O aa):J (aa×Bool) :=
 (kf cY).bind λy1=>some (y1.1,y1.2)
def hZ (cY:O aa) (aq:Int):J (Int ⊕ (aa×Bool)) :=
 if (decide (aq<(cY.length:Int)))=true then (ck ((0:Int)<=aq/\aq<(cY.length:Int)) (ck (bN (aq+1)) (ck ((!((nth cY aq.toNat).part != (aq+1)))=true->((0:Int)<=aq/\aq<(cY.length:Int))) (ck ((!((nth cY aq.toNat).part != (aq+1)))=true->(bN (aq+1))) (if (((nth cY aq.toNat).part != (aq+1)) || ((nth cY aq.toNat).last != ((aq+1)==(cY.length:Int))))=true then some (.inr ((⟨0,0,0,([]:O uA),([]:O uA),0,0,0,0,false,0,false⟩:aa),false)) else ck (bN (aq+1)) (some (.inl (aq+1)))))))) else (fz cY).map (λz=>.inr z)
def iI (cY:O aa):J (aa×Bool) :=
 loop (λs=>hZ cY s) 0
def mx (v1:O aa) (bu:Int) (B7:O aa) (Ga:O aa):J ((O aa×O aa) ⊕ ((O aa×O aa×Int) ⊕ ((O aa)×(O aa)))) :=
 ck ((0:Int)<=bu/\bu<(v1.length:Int)) ((lg Ga (nth v1 bu.toNat) true).bind λy2=>(oM Ga y2).bind λy3=>(iI y3.1).bind λy4=>if (!y4.2)=true then (ck (bN (bu+1)) (some (.inr (.inl (B7,Ga,bu+1))))) else ck (B7.length+([y4.1]:O aa).length<=1000000000) (some (.inl (B7++([y4.1]:O aa),y3.2))))
def my (v1:O aa) (bc:O aa) (aW:O aa) (bu:Int):J ((O aa×O aa×Int) ⊕ ((O aa)×(O aa))) :=
 if (decide (bu<(v1.length:Int)))=true then (ck ((0:Int)<=bu/\bu<(v1.length:Int)) (if (((nth v1 bu.toNat).part)==0)=true then (ck ((0:Int)<=bu/\bu<(v1.length:Int)) (ck (bc.length+([nth v1 bu.toNat]:O aa).length<=1000000000) (ck (bN (bu+1)) (some (.inl (bc++([nth v1 bu.toNat]:O aa),aW,bu+1)))))) else ck ((0:Int)<=bu/\bu<(v1.length:Int)) ((lf aW (nth v1 bu.toNat)).bind λy1=>loop (λs=>mx v1 bu s.1 s.2) (bc,y1)))) else some (.inr (bc,aW))
def oN (v0:O aa) (v1:O aa):J ((O aa)×(O aa)) :=
 ck (v0.length<=1000000000) (loop (λs=>my v1 s.1 s.2.1 s.2.2) (([]:O aa),v0,0))
def gL (v0:bE) (v1:Batch) (yG:O Range) (yH:O aa) (pg:O aj):J (bE×(O aa)×(O aj)×Int) :=
 (oN v0.open_ yH).bind λy3=>ck (([]:O Head).length+v0.aX.length<=1000000000) (ck ((([]:O Head)++v0.aX).length+([(⟨v1.source,v1.number,v1.format,(v1.records.length:Int)⟩:Head)]:O Head).length<=1000000000) (some ((⟨yG,y3.2,(([]:O Head)++v0.aX)++([(⟨v1.source,v1.number,v1.format,(v1.records.length:Int)⟩:Head)]:O Head)⟩:bE),y3.1,pg,0)))
def et (v1:Batch) (ca:O Range) (lE:O aa) (eW:O aj) (bj:Int) (tF:Int):J ((O Range×O aa×O aj×Int) ⊕ (bE×(O aa)×(O aj)×Int)) :=
 ck (eW.length+([(⟨(nth v1.records bj.toNat).source,(nth v1.records bj.toNat).aF,bj,tF⟩:aj)]:O aj).length<=1000000000) (ck (bN (bj+1)) (some (.inl (ca,lE,eW++([(⟨(nth v1.records bj.toNat).source,(nth v1.records bj.toNat).aF,bj,tF⟩:aj)]:O aj),bj+1))))
def jW (v0:bE) (v1:Batch) (v2:bJ) (ca:O Range) (lE:O aa) (eW:O aj) (bj:Int):J ((O Range×O aa×O aj×Int) ⊕ (bE×(O aa)×(O aj)×Int)) :=
 if (decide (bj<(v1.records.length:Int)))=true then (ck ((0:Int)<=bj/\bj<(v1.records.length:Int)) ((jh (nth v1.records bj.toNat) v2).bind λy4=>if (y4==0)=true then ((qi ca (nth v1.records bj.toNat).source (nth v1.records bj.toNat).aF).bind λy5=>if y5.2=true then (ck (lE.length+([nth v1.records bj.toNat]:O aa).length<=1000000000) (ck (bN (bj+1)) (some (.inl (y5.1,lE++([nth v1.records bj.toNat]:O aa),eW,bj+1))))) else et v1 ca lE eW bj 13) else et v1 ca lE eW bj y4)) else (gL v0 v1 ca lE eW).map (λz=>.inr z)
def lj (v0:bE) (v1:Batch) (v2:bJ):J (bE×(O aa)×(O aj)×Int) :=
 (mV v1).bind λy1=>if (y1 != 0)=true then some ((⟨([]:O Range),([]:O aa),([]:O Head)⟩:bE),([]:O aa),([]:O aj),y1) else (oL v0 v1.source).bind λy2=>if (v1.number != y2)=true then some ((⟨([]:O Range),([]:O aa),([]:O Head)⟩:bE),([]:O aa),([]:O aj),20) else ck (v0.seen.length<=1000000000) (loop (λs=>jW v0 v1 v2 s.1 s.2.1 s.2.2.1 s.2.2.2) (v0.seen,([]:O aa),([]:O aj),0))
def jK (aD:O Event) (QF:Int) (bk:Int) (ch:O aw) (bz:O Sub) (bA:O Int):J ((Int×O aw×O Sub×O Int) ⊕ ah) :=
 if (decide (bk<(aD.length:Int)))=true then (ck ((0:Int)<=bk/\bk<(aD.length:Int)) (if (decide (((nth aD bk.toNat).at_)<=QF))=true then (ck ((0:Int)<=bk/\bk<(aD.length:Int)) ((dQ (⟨ch,bz,bA⟩:ah) (nth aD bk.toNat)).bind λy1=>ck (bN (bk+1)) (some (.inl (bk+1,y1.au,y1.aN,y1.ended))))) else ck (bN (bk+1)) (some (.inl (bk+1,ch,bz,bA))))) else some (.inr (⟨ch,bz,bA⟩:ah))
def l9 (aD:O Event) (QF:Int):J ah :=
 loop (λs=>jK aD QF s.1 s.2.1 s.2.2.1 s.2.2.2) (0,([]:O aw),([]:O Sub),([]:O Int))
def iJ (y1:ah) (fw:Int) (bM:O aw) (y2:Int) (rr:O Int):J ((Int×O aw) ⊕ eb) :=
 ck (bM.length+([(⟨(nth y1.au y2.toNat).id,(nth y1.au y2.toNat).since,(nth y1.au y2.toNat).anchor,(nth y1.au y2.toNat).ja,(nth y1.au y2.toNat).closed,rr⟩:aw)]:O aw).length<=1000000000) (ck (bN (fw+1)) (some (.inl (fw+1,bM++([(⟨(nth y1.au y2.toNat).id,(nth y1.au y2.toNat).since,(nth y1.au y2.toNat).anchor,(nth y1.au y2.toNat).ja,(nth y1.au y2.toNat).closed,rr⟩:aw)]:O aw)))))
def ll (y1:ah) (dG:O Sub) (fw:Int) (bM:O aw) (y2:Int) (jk:Int) (oO:O Int):J ((Int×O Int) ⊕ ((Int×O aw) ⊕ eb)) :=
 if (decide (jk<(dG.length:Int)))=true then (ck ((0:Int)<=jk/\jk<(dG.length:Int)) (if (((nth dG jk.toNat).aH)==fw)=true then (ck ((0:Int)<=jk/\jk<(dG.length:Int)) (ck (oO.length+([(nth dG jk.toNat).id]:O Int).length<=1000000000) (ck (bN (jk+1)) (some (.inl (jk+1,oO++([(nth dG jk.toNat).id]:O Int))))))) else ck (bN (jk+1)) (some (.inl (jk+1,oO))))) else (iJ y1 fw bM y2 oO).map (λz=>.inr z)
def ln (y1:ah) (dG:O Sub) (fw:Int) (bM:O aw):J ((Int×O aw) ⊕ eb) :=
 if ((decide (fw<=9999)) && (decide ((bM.length:Int)<(y1.au.length:Int))))=true then ((fD y1 fw).bind λy2=>if (decide (y2<0))=true then (ck (bN (fw+1)) (some (.inl (fw+1,bM)))) else ck ((0:Int)<=y2/\y2<(y1.au.length:Int)) (loop (λs=>ll y1 dG fw bM y2 s.1 s.2) (0,([]:O Int)))) else some (.inr (⟨bM,dG⟩:eb))
def fV (y1:ah) (dG:O Sub):J eb :=
 loop (λs=>ln y1 dG s.1 s.2) (1,([]:O aw))
def lq (y1:ah) (vd:Int) (ma:O Sub):J ((Int×O Sub) ⊕ eb) :=
 ck ((decide (vd<=9999))=true->(bN ((y1.aN.length:Int) - (y1.ended.length:Int)))) (if ((decide (vd<=9999)) && (decide ((ma.length:Int)<((y1.aN.length:Int) - (y1.ended.length:Int)))))=true then ((jc y1 vd).bind λy3=>(eG (decide (y3>=0)) (gg y1 vd)).bind λy4=>if ((decide (y3>=0)) && (!y4))=true then (ck ((0:Int)<=y3/\y3<(y1.aN.length:Int)) (ck (ma.length+([nth y1.aN y3.toNat]:O Sub).length<=1000000000) (ck (bN (vd+1)) (some (.inl (vd+1,ma++([nth y1.aN y3.toNat]:O Sub))))))) else ck (bN (vd+1)) (some (.inl (vd+1,ma)))) else (fV y1 ma).map (λz=>.inr z))
def mW (v0:O Event) (v1:Int):J eb :=
 (l9 v0 v1).bind λy1=>loop (λs=>lq y1 s.1 s.2) (1,([]:O Sub))
def iK (c9:O uA) (y1:eb) (a9:Int):J (Int ⊕ (Int×Bool)) :=
 if (decide (a9<(y1.aN.length:Int)))=true then (ck ((0:Int)<=a9/\a9<(y1.aN.length:Int)) ((jd (nth y1.aN a9.toNat).numbers c9).bind λy2=>if y2=true then (ck ((0:Int)<=a9/\a9<(y1.aN.length:Int)) (some (.inr ((nth y1.aN a9.toNat).id,true)))) else ck (bN (a9+1)) (some (.inl (a9+1))))) else some (.inr (0,false))
def mX (aD:O Event) (c9:O uA) (Ng:Int):J (Int×Bool) :=
 (mW aD Ng).bind λy1=>loop (λs=>iK c9 y1 s) 0
def ql (aD:O Event) (KU:Int) (Ng:Int):J (Sub×Bool) :=
 (l9 aD Ng).bind λy1=>(jc y1 KU).bind λy2=>(eG (!(decide (y2<0))) (gg y1 KU)).bind λy3=>if ((decide (y2<0)) || y3)=true then some ((⟨0,0,0,([]:O uA),([]:O (O uA)),([]:O (O uA)),false,false⟩:Sub),false) else ck ((0:Int)<=y2/\y2<(y1.aN.length:Int)) (some (nth y1.aN y2.toNat,true))
def eY (v0:O Event) (v1:aa) (v2:Int) (Gb:O uA):J (aG×Int) :=
 (mX v0 Gb v1.start).bind λy2=>if ((!y2.2) || (Gb==([]:O uA)))=true then some ((⟨0,0,0,0,([]:O uA),([]:O uA),0,0,0,false,0,0⟩:aG),11) else (ql v0 y2.1 v1.start).bind λy3=>if (y3.1.aV && (!v1.aP))=true then some ((⟨0,0,0,0,([]:O uA),([]:O uA),0,0,0,false,0,0⟩:aG),16) else some ((⟨v2,v1.kind,y3.1.aH,y2.1,v1.a,v1.b,v1.start,v1.aJ,v1.bh,v1.aP,v1.source,v1.aF⟩:aG),0)
def iL (v0:O Event) (v1:aa) (v2:Int):J (aG×Int) :=
 (fx v1).bind λy1=>if (y1 != 0)=true then some ((⟨0,0,0,0,([]:O uA),([]:O uA),0,0,0,false,0,0⟩:aG),y1) else if (v1.part != 0)=true then some ((⟨0,0,0,0,([]:O uA),([]:O uA),0,0,0,false,0,0⟩:aG),8) else if v1.aP=true then (eY v0 v1 v2 v1.b) else eY v0 v1 v2 v1.a
def sC (ij:ao) (eZ:O aG) (iM:O aa):J ao :=
 ck (ij.bo.length<=1000000000) (some (⟨ij.ai,eZ,iM,ij.bo⟩:ao))
def lr (aD:O Event) (ij:ao) (dW:O aa) (b7:O aG) (eA:O aa) (a9:Int):J ((O aG×O aa×Int) ⊕ ao) :=
 if (decide (a9<(dW.length:Int)))=true then (ck ((0:Int)<=a9/\a9<(dW.length:Int)) (ck (bN ((b7.length:Int)+1)) ((iL aD (nth dW a9.toNat) ((b7.length:Int)+1)).bind λy1=>if (y1.2==0)=true then (ck (b7.length+([y1.1]:O aG).length<=1000000000) (ck (bN (a9+1)) (some (.inl (b7++([y1.1]:O aG),eA,a9+1))))) else ck ((0:Int)<=a9/\a9<(dW.length:Int)) (ck (eA.length+([nth dW a9.toNat]:O aa).length<=1000000000) (ck (bN (a9+1)) (some (.inl (b7,eA++([nth dW a9.toNat]:O aa),a9+1)))))))) else (sC ij b7 eA).map (λz=>.inr z)
def wP (aD:O Event) (ij:ao) (dW:O aa):J ao :=
 ck (([]:O aG).length+ij.usages.length<=1000000000) (ck (([]:O aa).length+ij.aI.length<=1000000000) (loop (λs=>lr aD ij dW s.1 s.2.1 s.2.2) (([]:O aG)++ij.usages,([]:O aa)++ij.aI,0)))
def iN (ij:ao) (eZ:O aG) (iM:O aa):J ((O Range)×(O aa)×(O Head)×(O aG)×(O aa)×(O aj)) :=
 ck (([]:O aj).length+ij.bo.length<=1000000000) (some (ij.ai.seen,ij.ai.open_,ij.ai.aX,eZ,iM,([]:O aj)++ij.bo))
def iO (aD:O Event) (ij:ao) (dW:O aa) (b7:O aG) (eA:O aa) (a9:Int):J ((O aG×O aa×Int) ⊕ ((O Range)×(O aa)×(O Head)×(O aG)×(O aa)×(O aj))) :=
 if (decide (a9<(dW.length:Int)))=true then (ck ((0:Int)<=a9/\a9<(dW.length:Int)) (ck (bN ((b7.length:Int)+1)) ((iL aD (nth dW a9.toNat) ((b7.length:Int)+1)).bind λy1=>if (y1.2==0)=true then (ck (b7.length+([y1.1]:O aG).length<=1000000000) (ck (bN (a9+1)) (some (.inl (b7++([y1.1]:O aG),eA,a9+1))))) else ck ((0:Int)<=a9/\a9<(dW.length:Int)) (ck (eA.length+([nth dW a9.toNat]:O aa).length<=1000000000) (ck (bN (a9+1)) (some (.inl (b7,eA++([nth dW a9.toNat]:O aa),a9+1)))))))) else (iN ij b7 eA).map (λz=>.inr z)
def mY (aD:O Event) (ij:ao) (dW:O aa):J ((O Range)×(O aa)×(O Head)×(O aG)×(O aa)×(O aj)) :=
 ck (([]:O aG).length+ij.usages.length<=1000000000) (ck (([]:O aa).length+ij.aI.length<=1000000000) (loop (λs=>iO aD ij dW s.1 s.2.1 s.2.2) (([]:O aG)++ij.usages,([]:O aa)++ij.aI,0)))
def oP (aD:O Event) (ij:ao) (O1:Batch) (KV:bJ):J (ao×Int) :=
 (lj ij.ai O1 KV).bind λy1=>if (y1.2.2.2 != 0)=true then some ((⟨(⟨([]:O Range),([]:O aa),([]:O Head)⟩:bE),([]:O aG),([]:O aa),([]:O aj)⟩:ao),y1.2.2.2) else (mY aD ij y1.2.1).bind λy2=>ck (y2.2.2.2.2.2.length+y1.2.2.1.length<=1000000000) (some ((⟨y1.1,y2.2.2.2.1,y2.2.2.2.2.1,y2.2.2.2.2.2++y1.2.2.1⟩:ao),0))
def qm (aD:O Event) (ij:ao) (B8:O uA) (KV:bJ):J (ao×Int) :=
 (oI B8).bind λy1=>if (y1.2.2 != 0)=true then some (ij,y1.2.2) else (oP aD ij y1.1 KV).bind λy2=>if (y2.2 != 0)=true then some (ij,y2.2) else some (y2.1,0)
def nL (aD:O Event) (DU:bJ) (ia:O (O uA)) (bO:Int) (bM:O Range) (sD:O aa) (sE:O Head) (sF:O aG) (sG:O aa) (sH:O aj):J ((Int×O Range×O aa×O Head×O aG×O aa×O aj) ⊕ ao) :=
 if (decide (bO<(ia.length:Int)))=true then (ck ((0:Int)<=bO/\bO<(ia.length:Int)) ((qm aD (⟨(⟨bM,sD,sE⟩:bE),sF,sG,sH⟩:ao) (nth ia bO.toNat) DU).bind λy1=>ck (bN (bO+1)) (some (.inl (bO+1,y1.1.ai.seen,y1.1.ai.open_,y1.1.ai.aX,y1.1.usages,y1.1.aI,y1.1.bo))))) else some (.inr (⟨(⟨bM,sD,sE⟩:bE),sF,sG,sH⟩:ao))
def qn (aD:O Event) (DU:bJ) (ia:O (O uA)):J ao :=
 loop (λs=>nL aD DU ia s.1 s.2.1 s.2.2.1 s.2.2.2.1 s.2.2.2.2.1 s.2.2.2.2.2.1 s.2.2.2.2.2.2) (0,([]:O Range),([]:O aa),([]:O Head),([]:O aG),([]:O aa),([]:O aj))
def iP (bd:O Range) (bU:Int) (aq:Int):J ((Int×Int) ⊕ Int) :=
 if (decide (aq<(bd.length:Int)))=true then (ck ((0:Int)<=aq/\aq<(bd.length:Int)) (ck (bN (bU+((nth bd aq.toNat).qZ))) (ck ((0:Int)<=aq/\aq<(bd.length:Int)) (ck (bN ((bU+((nth bd aq.toNat).qZ)) - (nth bd aq.toNat).from_)) (ck (bN (((bU+((nth bd aq.toNat).qZ)) - (nth bd aq.toNat).from_)+1)) (ck (bN (aq+1)) (some (.inl (((bU+((nth bd aq.toNat).qZ)) - (nth bd aq.toNat).from_)+1,aq+1))))))))) else some (.inr bU)
def mZ (bd:O Range):J Int :=
 loop (λs=>iP bd s.1 s.2) (0,0)
def fW (b8:ao) (bW:Int):J cx :=
 (mZ b8.ai.seen).bind λy1=>ck (bN (y1-(b8.usages.length:Int))) (ck (bN ((y1-(b8.usages.length:Int)) - (b8.aI.length:Int))) (ck (bN (((y1-(b8.usages.length:Int)) - (b8.aI.length:Int)) - (b8.ai.open_.length:Int))) (some (⟨bW,(b8.usages.length:Int),((y1-(b8.usages.length:Int)) - (b8.aI.length:Int)) - (b8.ai.open_.length:Int),(b8.bo.length:Int),(b8.aI.length:Int),(b8.ai.open_.length:Int)⟩:cx))))
def fX (b8:ao) (aq:Int) (bM:Int):J ((Int×Int) ⊕ cx) :=
 if (decide (aq<(b8.ai.aX.length:Int)))=true then (ck ((0:Int)<=aq/\aq<(b8.ai.aX.length:Int)) (ck (bN (bM+((nth b8.ai.aX aq.toNat).count))) (ck (bN (aq+1)) (some (.inl (aq+1,bM+((nth b8.ai.aX aq.toNat).count))))))) else (fW b8 bM).map (λz=>.inr z)
def gW (b8:ao):J cx :=
 loop (λs=>fX b8 s.1 s.2) (0,0)
def kg (b8:ao):J ao :=
 ck (b8.ai.seen.length<=1000000000) (ck (b8.ai.open_.length<=1000000000) (ck (b8.ai.aX.length<=1000000000) (ck (b8.usages.length<=1000000000) (ck (b8.aI.length<=1000000000) (ck (b8.bo.length<=1000000000) (some b8))))))
def eu (y1:cx) (fb:O aT):J (O aT) :=
 if (y1.read != ((((y1.accepted+y1.merged)+y1.rejected)+y1.aV)+y1.open_))=true then (ck (fb.length+([(⟨1,2,y1.read,(((y1.accepted+y1.merged)+y1.rejected)+y1.aV)+y1.open_⟩:aT)]:O aT).length<=1000000000) (some (fb++([(⟨1,2,y1.read,(((y1.accepted+y1.merged)+y1.rejected)+y1.aV)+y1.open_⟩:aT)]:O aT)))) else some fb
def lu (b8:ao) (j8:Int):J (O aT) :=
 (gW b8).bind λy1=>ck (bN (y1.accepted+y1.merged)) (ck (bN ((y1.accepted+y1.merged)+y1.rejected)) (ck (bN (((y1.accepted+y1.merged)+y1.rejected)+y1.aV)) (ck (bN ((((y1.accepted+y1.merged)+y1.rejected)+y1.aV)+y1.open_)) (if (j8 != y1.read)=true then (ck (([]:O aT).length+([(⟨1,1,j8,y1.read⟩:aT)]:O aT).length<=1000000000) (eu y1 (([]:O aT)++([(⟨1,1,j8,y1.read⟩:aT)]:O aT)))) else eu y1 ([]:O aT)))))
def gz (aD:O Event) (ed:O (O uA)) (yI:Int):J Bool :=
 (oz aD ed).bind λy1=>if (!y1)=true then ((mP).bind λy2=>some y2) else (qn aD (⟨0,1073741824⟩:bJ) ed).bind λy3=>(gW y3).bind λy4=>(kg y3).bind λy5=>(dC y5 yI).bind λy6=>(lu y3 yI).bind λy7=>(lS y6 y7).bind λy8=>(eG y8 (kg y3)).bind λy9=>(eG y8 (dC y9 y4.read)).bind λNf=>(eG (y8 && ((Nf.length:Int)==0)) mP).bind λVq=>some ((y8 && ((Nf.length:Int)==0)) && Vq)
end Go.Proofs.Ytpdanklncjopoaa
namespace Go.Proofs.Ytpdanklncjopoaa
open Go.RowKit Go.Abs Go.Proofs.Try
theorem ve {cD:Int} {r:(O Bool)} (H:lO cD=some r):aB prog 53 [cI cD] (·=.agg [cB (nth r 0),cB (nth r 1),cB (nth r 2),cB (nth r 3),cB (nth r 4)]):=by
 obtain ⟨i4,A5,Ws,A6,Wu⟩:=Qg
 obtain ⟨i130,yJ,yK,Wv,Ww⟩:=Qk
 refine aB.aS func53 rfl ntmps53 rfl λS hS=>?_
 unfold lO at H
 refine .A 15 [.r 0] rfl trivial (.ite H rfl (λH=>?_) (λH=>?_))
 ·refine .A 5 [.d (.agg [cB true,cB false,cB false,cB true,cB true])] rfl (az.g (gl underlying130 yJ yK A5 A6 rfl rfl)) (.R func53 results53 rfl ?_)
  cases H
  exact .m rfl (.av _)
 ·refine .E 5 rfl (.ite H rfl (λH=>?_) (λH=>?_))
  ·refine .A 5 [.d (.agg [cB true,cB false,cB false,cB false,cB false])] rfl (az.g (gl underlying130 yJ yK A5 A6 rfl rfl)) (.R func53 results53 rfl ?_)
   cases H
   exact .m rfl (.av _)
  ·refine .E 5 rfl (.ite H rfl (λH=>?_) (λH=>?_))
   ·refine .A 5 [.d (.agg [cB true,cB true,cB false,cB true,cB false])] rfl (az.g (gl underlying130 yJ yK A5 A6 rfl rfl)) (.R func53 results53 rfl ?_)
    cases H
    exact .m rfl (.av _)
   ·refine .di (ι:=Bool) (λpg=>[(2,.ref 0 0),(3,.d (cI cD)),(13,.d (cB pg))]) (λpg=>⟨[.row 130 [.d (cB false),.d (cB false),.d (cB false),.d (cB false),.d (cB false)]],[]⟩) (λs=>fC cD s=some r) ?_ ?_
    ·rintro pg H
     replace H:fC cD pg=some r:=H
     unfold fC at H
     refine .ite H rfl (λH=>?_) (λH=>?_)
     ·refine .A 5 [.d (.agg [cB false,cB true,cB true,cB false,cB false])] rfl (az.g (gl underlying130 yJ yK A5 A6 rfl rfl)) (.R func53 results53 rfl ?_)
      cases H
      exact .m rfl (.av _)
     ·refine .di (ι:=Bool) (λAY=>[(2,.ref 0 0),(3,.d (cI cD)),(17,.d (cB AY))]) (λAY=>⟨[.row 130 [.d (cB false),.d (cB false),.d (cB false),.d (cB false),.d (cB false)]],[]⟩) (λs=>eH cD s=some r) ?_ ?_
      ·rintro AY H
       replace H:eH cD AY=some r:=H
       unfold eH at H
       refine .ite H rfl (λH=>?_) (λH=>?_)
       ·refine .A 5 [.d (.agg [cB false,cB true,cB false,cB true,cB false])] rfl (az.g (gl underlying130 yJ yK A5 A6 rfl rfl)) (.R func53 results53 rfl ?_)
        cases H
        exact .m rfl (.av _)
       ·refine .di (ι:=Bool) (λAX=>[(2,.ref 0 0),(22,.d (cB AX))]) (λAX=>⟨[.row 130 [.d (cB false),.d (cB false),.d (cB false),.d (cB false),.d (cB false)]],[]⟩) (λs=>fB s=some r) ?_ ?_
        ·rintro AX H
         replace H:fB AX=some r:=H
         unfold fB at H
         refine .ite H rfl (λH=>?_) (λH=>?_)
         ·refine .A 5 [.d (.agg [cB true,cB false,cB false,cB false,cB true])] rfl (az.g (gl underlying130 yJ yK A5 A6 rfl rfl)) (.R func53 results53 rfl ?_)
          cases H
          exact .m rfl (.av _)
         ·refine .A 7 [.d (.agg [cB false,cB true,cB false,cB false,cB false])] rfl (az.g (gl underlying130 yJ yK A5 A6 rfl rfl)) (.R func53 results53 rfl ?_)
          cases H
          exact .m rfl (.av _)
        ·intro Hq
         refine .E 5 rfl (.ite H rfl (λH=>?_) (λH=>?_))
         ·exact .E 1 rfl (.z (Hq (cD==14) H) rfl rfl)
         ·exact .E 4 rfl (.z (Hq (cD==15) H) rfl rfl)
      ·intro ru
       refine .E 5 rfl (.ite H rfl (λH=>?_) (λH=>?_))
       ·exact .E 1 rfl (.z (ru (cD==7) H) rfl rfl)
       ·refine .E 5 rfl (.ite H rfl (λH=>?_) (λH=>?_))
        ·exact .E 1 rfl (.z (ru (cD==8) H) rfl rfl)
        ·exact .E 4 rfl (.z (ru (cD==9) H) rfl rfl)
    ·intro ly
     refine .E 5 rfl (.ite H rfl (λH=>?_) (λH=>?_))
     ·exact .E 1 rfl (.z (ly (cD==5) H) rfl rfl)
     ·exact .E 4 rfl (.z (ly (cD==6) H) rfl rfl)
theorem yL {m8:Int} {r:Bool} (H:sr m8=some r):aB prog 66 [cI m8] (·=cB r):=by
 refine aB.aS func66 rfl ntmps66 rfl λS hS=>?_
 unfold sr at H
 refine .A 14 [] rfl ⟨rfl,rfl⟩ (.R func66 results66 rfl ?_)
 cases H
 exact .m rfl (.av _)
theorem B9 {bg:O uA} {r:Bool} (H:ow bg=some r):aB prog 67 [cS bg] (·=cB r):=by
 refine aB.aS func67 rfl ntmps67 rfl λS hS=>?_
 unfold ow at H
 obtain ⟨cA,H⟩:=ab H
 obtain ⟨cP,H⟩:=ab H
 refine .A 26 [.i (bg.length:Int),.i (bg.length:Int),.c (nth bg (Int.toNat (0))),.b (decide ((nth bg (Int.toNat (0)))<97)),.c (nth bg (Int.toNat (0))),.b (decide ((nth bg (Int.toNat (0))) > 122))] rfl ⟨rfl,λhg=>az.g (sg (a:=nth bg (Int.toNat (0))) (b:=122) rfl rfl),rfl,λhg=>az.g (ew (i:=0) underlying9 rfl rfl (cP hg)),rfl,rfl,λhg=>az.g (yc (a:=nth bg (Int.toNat (0))) (b:=97) rfl rfl),rfl,λhg=>az.g (ew (i:=0) underlying9 rfl rfl (cA hg)),rfl,rfl,rfl,λhg=>az.g (ik underlying9 rfl),rfl,az.g (ik underlying9 rfl)⟩ (.ite H rfl (λH=>?_) (λH=>?_))
 ·refine .E 4 rfl (.R func67 results67 rfl ?_)
  cases H
  exact .m rfl (.av _)
 ·refine .E 7 rfl (.lp H (λbx=>[(0,.d (cS bg)),(3,.d (cI bx))]) (λbx=>⟨[],[]⟩) (.k2 rfl rfl (.nil)) rfl ?_)
  rintro bx q1 H bt
  unfold jA at H
  refine .A 8 [.i (bg.length:Int)] rfl (az.g (ik underlying9 rfl)) (.ite H rfl (λH=>?_) (λH=>?_))
  ·obtain ⟨dD,H⟩:=ab H
   obtain ⟨dY,H⟩:=ab H
   obtain ⟨fh,H⟩:=ab H
   obtain ⟨gM,H⟩:=ab H
   refine .B 25 [.c (nth bg bx.toNat),.b (decide ((nth bg bx.toNat)<97)),.c (nth bg bx.toNat),.b (decide ((nth bg bx.toNat) > 122)),.c (nth bg bx.toNat),.b (decide ((nth bg bx.toNat)<48)),.c (nth bg bx.toNat),.b (decide ((nth bg bx.toNat) > 57))] rfl ⟨λhg=>az.g (sg (a:=nth bg bx.toNat) (b:=57) rfl rfl),rfl,λhg=>az.g (ew (i:=bx) underlying9 rfl rfl (gM hg)),rfl,rfl,rfl,λhg=>az.g (yc (a:=nth bg bx.toNat) (b:=48) rfl rfl),rfl,λhg=>az.g (ew (i:=bx) underlying9 rfl rfl (fh hg)),rfl,rfl,rfl,λhg=>az.g (sg (a:=nth bg bx.toNat) (b:=122) rfl rfl),rfl,λhg=>az.g (ew (i:=bx) underlying9 rfl rfl (dY hg)),rfl,rfl,az.g (yc (a:=nth bg bx.toNat) (b:=97) rfl rfl),az.g (ew (i:=bx) underlying9 rfl rfl dD)⟩ (.eN (env':=[(43,_),(47,_)]) rfl rfl rfl ⟨.inr (.inl rfl),⟨.inr (.inr ⟨_,_,rfl,rfl⟩),trivial⟩⟩ rfl (λhg=>az.g (s7 rfl rfl rfl)) ?_)
   obtain ⟨jX,H⟩:=ab H
   refine .A 8 [.c (nth bg bx.toNat),.b ((nth bg bx.toNat) != 45)] rfl ⟨rfl,λhg=>az.g (yd (a:=nth bg bx.toNat) (b:=45) rfl rfl),rfl,λhg=>az.g (ew (i:=bx) underlying9 rfl rfl (jX hg)),rfl,rfl,rfl⟩ (.ite H rfl (λH=>?_) (λH=>?_))
   ·refine .E 4 rfl (.R func67 results67 rfl ?_)
    cases H
    cases bt
    exact .m rfl (.av _)
   ·obtain ⟨mb,H⟩:=ab H
    refine .A 7 [.i (bx+1)] rfl (ay rfl rfl mb) ?_
    cases H
    exact .z bt rfl rfl
  ·refine .E 5 rfl (.R func67 results67 rfl ?_)
   cases H
   cases bt
   exact .m rfl (.av _)
theorem mz {bg:O uA} {r:Bool} (H:fq bg=some r):aB prog 68 [cS bg] (·=cB r):=by
 refine aB.aS func68 rfl ntmps68 rfl λS hS=>?_
 unfold fq at H
 refine .E 9 rfl (.bw (ι:=Unit) (λ_=>[(0,.d (cS bg))]) (λ_=>⟨[],[]⟩) (λs=>iv bg=some r) ?_ ?_)
 ·rintro _ H
  replace H:iv bg=some r:=H
  unfold iv at H
  refine .A 12 [.i (bg.length:Int),.i (bg.length:Int)] rfl ⟨rfl,rfl,λhg=>az.g (ik underlying9 rfl),rfl,az.g (ik underlying9 rfl)⟩ (.R func68 results68 rfl ?_)
  cases H
  exact .m rfl (.av _)
 ·intro ly eF
  refine .lp H (λbx=>[(0,.d (cS bg)),(3,.d (cI bx))]) (λbx=>⟨[],[]⟩) (.k2 rfl rfl (.nil)) rfl ?_
  rintro bx q1 H bt
  unfold ku at H
  refine .A 8 [.i (bg.length:Int)] rfl (az.g (ik underlying9 rfl)) (.ite H rfl (λH=>?_) (λH=>?_))
  ·obtain ⟨cA,H⟩:=ab H
   obtain ⟨cP,H⟩:=ab H
   refine .A 16 [.c (nth bg bx.toNat),.b (decide ((nth bg bx.toNat)<48)),.c (nth bg bx.toNat),.b (decide ((nth bg bx.toNat) > 57))] rfl ⟨rfl,λhg=>az.g (sg (a:=nth bg bx.toNat) (b:=57) rfl rfl),rfl,λhg=>az.g (ew (i:=bx) underlying9 rfl rfl (cP hg)),rfl,rfl,az.g (yc (a:=nth bg bx.toNat) (b:=48) rfl rfl),az.g (ew (i:=bx) underlying9 rfl rfl cA)⟩ (.ite H rfl (λH=>?_) (λH=>?_))
   ·refine .E 4 rfl (.R func68 results68 rfl ?_)
    cases H
    cases bt
    exact .m rfl (.av _)
   ·obtain ⟨dD,H⟩:=ab H
    refine .A 7 [.i (bx+1)] rfl (ay rfl rfl dD) ?_
    cases H
    exact .z bt rfl rfl
  ·refine .E 1 rfl ?_
   obtain ⟨q0,H9,lz⟩:=bK H;clear H;cases lz
   cases bt
   have H:=H9
   exact .z (eF () H) rfl rfl
theorem Ac {KT:Event} {r:Bool} (H:mH KT=some r):aB prog 69 [.agg (Event.row KT)] (·=cB r):=by
 refine aB.aS func69 rfl ntmps69 rfl λS hS=>?_
 unfold mH at H
 refine .A 12 [.r 0] rfl trivial (.ite H rfl (λH=>?_) (λH=>?_))
 ·refine .A 12 [] rfl ⟨rfl,rfl,rfl⟩ (.R func69 results69 rfl ?_)
  cases H
  exact .m rfl (.av _)
 ·refine .E 8 rfl (.ite H rfl (λH=>?_) (λH=>?_))
  ·refine .A 12 [] rfl ⟨rfl,rfl,rfl⟩ (.R func69 results69 rfl ?_)
   cases H
   exact .m rfl (.av _)
  ·refine .A 13 [] rfl ⟨rfl,rfl,rfl⟩ (.R func69 results69 rfl ?_)
   cases H
   exact .m rfl (.av _)
theorem Ca {v0:Event} {v1 r:Int} (H:ox v0 v1=some r):aB prog 52 [.agg (Event.row v0),cI v1] (·=cI r):=by
 obtain ⟨i4,A5,Ws,A6,Wu⟩:=Qg
 refine aB.aS func52 rfl ntmps52 rfl λS hS=>?_
 unfold ox at H
 refine .A 17 [.r 0] rfl ⟨rfl,rfl,rfl⟩ (.ite H rfl (λH=>?_) (λH=>?_))
 ·refine .E 4 rfl (.R func52 results52 rfl ?_)
  cases H
  exact .m rfl (.av _)
 ·refine .A 13 [] rfl ⟨rfl,rfl,rfl⟩ (.ite H rfl (λH=>?_) (λH=>?_))
  ·refine .E 4 rfl (.R func52 results52 rfl ?_)
   cases H
   exact .m rfl (.av _)
  ·refine .E 9 rfl (.ite H rfl (λH=>?_) (λH=>?_))
   ·refine .E 4 rfl (.R func52 results52 rfl ?_)
    cases H
    exact .m rfl (.av _)
   ·obtain ⟨y1,dI,H⟩:=af H
    refine .B 28 [.d (.agg [cB (nth y1 0),cB (nth y1 1),cB (nth y1 2),cB (nth y1 3),cB (nth y1 4)]),.r 1,.g (.ref 1 0),.g (.ref 1 1)] rfl ⟨rfl,rfl,rfl,rfl,rfl,λhg=>az.g (gB (m:=1) (sz:=1) underlying130 ⟨_,A5,A6⟩ rfl rfl rfl (by decide)),rfl,rfl,rfl,az.g (gB (m:=0) (sz:=1) underlying130 ⟨_,A5,A6⟩ rfl rfl rfl (by decide)),ax (en 0 rfl) rfl rfl (ve dI)⟩ (.eN (env':=[(41,_),(44,_)]) rfl rfl rfl ⟨.inr (.inl rfl),⟨.inr (.inr ⟨_,_,rfl,rfl⟩),trivial⟩⟩ rfl (λhg=>az.g (cC rfl rfl rfl)) (.B 9 [.g (.ref 1 2)] rfl ⟨rfl,rfl,rfl,rfl,rfl,λhg=>az.g (gB (m:=2) (sz:=1) underlying130 ⟨_,A5,A6⟩ rfl rfl rfl (by decide)),rfl⟩ (.eN (env':=[(51,_),(54,_)]) rfl rfl rfl ⟨.inr (.inl rfl),⟨.inr (.inr ⟨_,_,rfl,rfl⟩),trivial⟩⟩ rfl (λhg=>az.g (cC rfl rfl rfl)) (.B 9 [.g (.ref 1 3)] rfl ⟨rfl,rfl,rfl,rfl,rfl,λhg=>az.g (gB (m:=3) (sz:=1) underlying130 ⟨_,A5,A6⟩ rfl rfl rfl (by decide)),rfl⟩ (.eN (env':=[(61,_),(64,_)]) rfl rfl rfl ⟨.inr (.inl rfl),⟨.inr (.inr ⟨_,_,rfl,rfl⟩),trivial⟩⟩ rfl (λhg=>az.g (cC rfl rfl rfl)) (.B 9 [.g (.ref 1 4)] rfl ⟨rfl,rfl,rfl,rfl,rfl,λhg=>az.g (gB (m:=4) (sz:=1) underlying130 ⟨_,A5,A6⟩ rfl rfl rfl (by decide)),rfl⟩ (.eN (env':=[(71,_),(74,_)]) rfl rfl rfl ⟨.inr (.inl rfl),⟨.inr (.inr ⟨_,_,rfl,rfl⟩),trivial⟩⟩ rfl (λhg=>az.g (cC rfl rfl rfl)) (.A 2 [] rfl rfl (.ite H rfl (λH=>?_) (λH=>?_))))))))))
    ·refine .E 4 rfl (.R func52 results52 rfl ?_)
     cases H
     exact .m rfl (.av _)
    ·obtain ⟨y2,gN,H⟩:=af H
     obtain ⟨y3,mA,H⟩:=af H
     refine .B 20 [.g (.ref 1 0),.b y2,.g (.ref 1 1),.b y3] rfl ⟨rfl,λhg=>ax (en 1 rfl) rfl rfl (yL (b6 mA hg)),rfl,rfl,rfl,rfl,λhg=>az.g (gB (m:=1) (sz:=1) underlying130 ⟨_,A5,A6⟩ rfl rfl rfl (by decide)),rfl,rfl,λhg=>ax (en 1 rfl) rfl rfl (yL (b6 gN hg)),rfl,rfl,az.g (gB (m:=0) (sz:=1) underlying130 ⟨_,A5,A6⟩ rfl rfl rfl (by decide))⟩ (.eN (env':=[(88,_),(92,_)]) rfl rfl rfl ⟨.inr (.inl rfl),⟨.inr (.inr ⟨_,_,rfl,rfl⟩),trivial⟩⟩ rfl (λhg=>az.g (cC rfl rfl rfl)) (.A 2 [] rfl rfl (.ite H rfl (λH=>?_) (λH=>?_))))
     ·refine .E 4 rfl (.R func52 results52 rfl ?_)
      cases H
      exact .m rfl (.av _)
     ·obtain ⟨y4,vf,H⟩:=af H
      refine .B 20 [.g (.ref 1 3),.b y4] rfl ⟨rfl,rfl,rfl,rfl,rfl,rfl,rfl,λhg=>ax (en 2 rfl) rfl rfl (B9 (b6 vf hg)),rfl,rfl,az.g (gB (m:=3) (sz:=1) underlying130 ⟨_,A5,A6⟩ rfl rfl rfl (by decide))⟩ (.eN (env':=[(107,_),(110,_)]) rfl rfl rfl ⟨.inr (.inl rfl),⟨.inr (.inr ⟨_,_,rfl,rfl⟩),trivial⟩⟩ rfl (λhg=>az.g (cC rfl rfl rfl)) (.B 4 [] rfl ⟨rfl,rfl,rfl⟩ (.eN (env':=[(112,_),(115,_)]) rfl rfl rfl ⟨.inr (.inl rfl),⟨.inr (.inr ⟨_,_,rfl,rfl⟩),trivial⟩⟩ rfl (λhg=>az.g (cC rfl rfl rfl)) (.A 2 [] rfl rfl (.ite H rfl (λH=>?_) (λH=>?_))))))
      ·refine .E 4 rfl (.R func52 results52 rfl ?_)
       cases H
       exact .m rfl (.av _)
      ·obtain ⟨y5,Ad,H⟩:=af H
       refine .A 13 [.g (.ref 1 2),.b y5] rfl ⟨rfl,rfl,λhg=>ax (en 3 rfl) rfl rfl (mz (b6 Ad hg)),rfl,rfl,az.g (gB (m:=2) (sz:=1) underlying130 ⟨_,A5,A6⟩ rfl rfl rfl (by decide))⟩ (.ite H rfl (λH=>?_) (λH=>?_))
       ·refine .E 4 rfl (.R func52 results52 rfl ?_)
        cases H
        exact .m rfl (.av _)
       ·obtain ⟨y6,Gc,H⟩:=af H
        refine .A 12 [.g (.ref 1 4),.b y6] rfl ⟨rfl,rfl,λhg=>ax (en 4 rfl) rfl rfl (Ac (b6 Gc hg)),rfl,az.g (gB (m:=4) (sz:=1) underlying130 ⟨_,A5,A6⟩ rfl rfl rfl (by decide))⟩ (.ite H rfl (λH=>?_) (λH=>?_))
        ·refine .E 4 rfl (.R func52 results52 rfl ?_)
         cases H
         exact .m rfl (.av _)
        ·refine .E 5 rfl (.R func52 results52 rfl ?_)
         cases H
         exact .m rfl (.av _)
theorem nj {aU:ah} {jj r:Int} (H:fD aU jj=some r):aB prog 56 [.agg (ah.row aU),cI jj] (·=cI r):=by
 refine aB.aS func56 rfl ntmps56 rfl λS hS=>?_
 unfold fD at H
 refine .A 11 [.r 0] rfl trivial (.lp H (λak=>[(1,.d (cI jj)),(2,.ref 0 0),(5,.d (cI ak))]) (λak=>⟨[.row 115 [.d (ag 6 aw.eQ aU.au),.d (ag 8 Sub.row aU.aN),.d (ag 1 rI aU.ended)]],[]⟩) (.k3 rfl rfl rfl (.nil)) rfl ?_)
 rintro ak q1 H bt
 unfold fO at H
 refine .A 9 [.i (aU.au.length:Int)] rfl (DP.n rfl rfl) (.ite H rfl (λH=>?_) (λH=>?_))
 ·obtain ⟨cA,H⟩:=ab H
  refine .A 14 [.d (.ro (aw.eQ (nth aU.au ak.toNat)))] rfl (DP.ix rfl rfl rfl cA) (.ite H rfl (λH=>?_) (λH=>?_))
  ·refine .E 5 rfl (.R func56 results56 rfl ?_)
   cases H
   cases bt
   exact .m rfl (.av _)
  ·obtain ⟨cP,H⟩:=ab H
   refine .A 7 [.i (ak+1)] rfl (ay rfl rfl cP) ?_
   cases H
   exact .z bt rfl rfl
 ·refine .E 5 rfl (.R func56 results56 rfl ?_)
  cases H
  cases bt
  exact .m rfl (.av _)
theorem m0 {aU:ah} {jj r:Int} (H:jc aU jj=some r):aB prog 57 [.agg (ah.row aU),cI jj] (·=cI r):=by
 refine aB.aS func57 rfl ntmps57 rfl λS hS=>?_
 unfold jc at H
 refine .A 11 [.r 0] rfl trivial (.lp H (λak=>[(1,.d (cI jj)),(2,.ref 0 0),(5,.d (cI ak))]) (λak=>⟨[.row 115 [.d (ag 6 aw.eQ aU.au),.d (ag 8 Sub.row aU.aN),.d (ag 1 rI aU.ended)]],[]⟩) (.k3 rfl rfl rfl (.nil)) rfl ?_)
 rintro ak q1 H bt
 unfold kv at H
 refine .A 9 [.i (aU.aN.length:Int)] rfl (qX.n rfl rfl) (.ite H rfl (λH=>?_) (λH=>?_))
 ·obtain ⟨cA,H⟩:=ab H
  refine .A 14 [.d (.ro (Sub.row (nth aU.aN ak.toNat)))] rfl (qX.ix rfl rfl rfl cA) (.ite H rfl (λH=>?_) (λH=>?_))
  ·refine .E 5 rfl (.R func57 results57 rfl ?_)
   cases H
   cases bt
   exact .m rfl (.av _)
  ·obtain ⟨cP,H⟩:=ab H
   refine .A 7 [.i (ak+1)] rfl (ay rfl rfl cP) ?_
   cases H
   exact .z bt rfl rfl
 ·refine .E 5 rfl (.R func57 results57 rfl ?_)
  cases H
  cases bt
  exact .m rfl (.av _)
theorem mB {aU:ah} {jj:Int} {r:Bool} (H:gg aU jj=some r):aB prog 71 [.agg (ah.row aU),cI jj] (·=cB r):=by
 refine aB.aS func71 rfl ntmps71 rfl λS hS=>?_
 unfold gg at H
 refine .A 11 [.r 0] rfl trivial (.lp H (λak=>[(1,.d (cI jj)),(2,.ref 0 0),(5,.d (cI ak))]) (λak=>⟨[.row 115 [.d (ag 6 aw.eQ aU.au),.d (ag 8 Sub.row aU.aN),.d (ag 1 rI aU.ended)]],[]⟩) (.k3 rfl rfl rfl (.nil)) rfl ?_)
 rintro ak q1 H bt
 unfold iw at H
 refine .A 9 [.i (aU.ended.length:Int)] rfl (jq.n rfl rfl) (.ite H rfl (λH=>?_) (λH=>?_))
 ·obtain ⟨cA,H⟩:=ab H
  refine .A 13 [.d (.ro (rI (nth aU.ended ak.toNat)))] rfl (jq.ix rfl rfl rfl cA) (.ite H rfl (λH=>?_) (λH=>?_))
  ·refine .E 4 rfl (.R func71 results71 rfl ?_)
   cases H
   cases bt
   exact .m rfl (.av _)
  ·obtain ⟨cP,H⟩:=ab H
   refine .A 7 [.i (ak+1)] rfl (ay rfl rfl cP) ?_
   cases H
   exact .z bt rfl rfl
 ·refine .E 5 rfl (.R func71 results71 rfl ?_)
  cases H
  cases bt
  exact .m rfl (.av _)
theorem Cb {aU:ah} {jj:Int} {r:Bool} (H:oy aU jj=some r):aB prog 70 [.agg (ah.row aU),cI jj] (·=cB r):=by
 refine aB.aS func70 rfl ntmps70 rfl λS hS=>?_
 unfold oy at H
 refine .A 11 [.r 0] rfl trivial (.lp H (λak=>[(1,.d (cI jj)),(2,.ref 0 0),(5,.d (cI ak))]) (λak=>⟨[.row 115 [.d (ag 6 aw.eQ aU.au),.d (ag 8 Sub.row aU.aN),.d (ag 1 rI aU.ended)]],[]⟩) (.k3 rfl rfl rfl (.nil)) rfl ?_)
 rintro ak q1 H bt
 unfold jB at H
 refine .A 9 [.i (aU.aN.length:Int)] rfl (qX.n rfl rfl) (.ite H rfl (λH=>?_) (λH=>?_))
 ·obtain ⟨cA,H⟩:=ab H
  obtain ⟨cP,H⟩:=ab H
  obtain ⟨y1,dI,H⟩:=af H
  refine .A 26 [.p 19,.d (.ro (Sub.row (nth aU.aN ak.toNat))),.d (.ro (Sub.row (nth aU.aN ak.toNat))),.b y1] rfl ⟨rfl,rfl,λhg=>ax (en 5 rfl) rfl rfl (mB (b6 dI hg)),rfl,rfl,rfl,rfl,λhg=>qX.ix rfl rfl rfl (cP hg),rfl,rfl,rfl,qX.ix rfl rfl rfl cA,(show _=true by kernel_rfl)⟩ (.ite H rfl (λH=>?_) (λH=>?_))
  ·refine .E 4 rfl (.R func70 results70 rfl ?_)
   cases H
   cases bt
   exact .m rfl (.av _)
  ·obtain ⟨dD,H⟩:=ab H
   refine .A 7 [.i (ak+1)] rfl (ay rfl rfl dD) ?_
   cases H
   exact .z bt rfl rfl
 ·refine .E 5 rfl (.R func70 results70 rfl ?_)
  cases H
  cases bt
  exact .m rfl (.av _)
theorem vg {aU:ah} {pZ:Event} {r:Int} (H:gD aU pZ=some r):aB prog 54 [.agg (ah.row aU),.agg (Event.row pZ)] (·=cI r):=by
 refine aB.aS func54 rfl ntmps54 rfl λS hS=>?_
 unfold gD at H
 obtain ⟨y1,dI,H⟩:=af H
 refine .A 21 [.r 0,.r 1,.i y1] rfl (ax (en 6 rfl) rfl rfl (nj dI)) (.ite H rfl (λH=>?_) (λH=>?_))
 ·refine .E 6 rfl (.ite H rfl (λH=>?_) (λH=>?_))
  ·refine .E 4 rfl (.R func54 results54 rfl ?_)
   cases H
   exact .m rfl (.av _)
  ·refine .E 5 rfl (.R func54 results54 rfl ?_)
   cases H
   exact .m rfl (.av _)
 ·refine .E 7 rfl (.ite H rfl (λH=>?_) (λH=>?_))
  ·refine .E 4 rfl (.R func54 results54 rfl ?_)
   cases H
   exact .m rfl (.av _)
  ·obtain ⟨cA,H⟩:=ab H
   refine .A 11 [.d (.ro (aw.eQ (nth aU.au y1.toNat)))] rfl (DP.ix rfl rfl rfl cA) (.ite H rfl (λH=>?_) (λH=>?_))
   ·refine .E 4 rfl (.R func54 results54 rfl ?_)
    cases H
    exact .m rfl (.av _)
   ·obtain ⟨y2,gN,H⟩:=af H
    refine .A 15 [.i y2] rfl ⟨rfl,rfl,λhg=>ax (en 7 rfl) rfl rfl (m0 (b6 gN hg)),rfl,rfl,rfl⟩ (.ite H rfl (λH=>?_) (λH=>?_))
    ·refine .E 4 rfl (.R func54 results54 rfl ?_)
     cases H
     exact .m rfl (.av _)
    ·obtain ⟨y3,mA,H⟩:=af H
     obtain ⟨cP,H⟩:=ab H
     refine .B 25 [.b y3,.d (.ro (aw.eQ (nth aU.au y1.toNat)))] rfl ⟨rfl,rfl,rfl,λhg=>DP.ix rfl rfl rfl (cP hg),rfl,rfl,rfl,rfl,rfl,rfl,rfl,λhg=>ax (en 8 rfl) rfl rfl (Cb (b6 mA hg)),rfl,rfl,rfl⟩ (.eN (env':=[(46,_),(53,_)]) rfl rfl rfl ⟨.inr (.inl rfl),⟨.inr (.inr ⟨_,_,rfl,rfl⟩),trivial⟩⟩ rfl (λhg=>az.g (cC rfl rfl rfl)) (.A 2 [] rfl rfl (.ite H rfl (λH=>?_) (λH=>?_))))
     ·refine .E 4 rfl (.R func54 results54 rfl ?_)
      cases H
      exact .m rfl (.av _)
     ·refine .E 5 rfl (.R func54 results54 rfl ?_)
      cases H
      exact .m rfl (.av _)
theorem m3 {kb:O (O uA)} {su:O uA} {r:Bool} (H:jd kb su=some r):aB prog 73 [ag 1 rS kb,cS su] (·=cB r):=by
 refine aB.aS func73 rfl ntmps73 rfl λS hS=>?_
 unfold jd at H
 refine .E 10 rfl (.lp H (λak=>[(0,.d (ag 1 rS kb)),(1,.d (cS su)),(5,.d (cI ak))]) (λak=>⟨[],[]⟩) (.k3 rfl rfl rfl (.nil)) rfl ?_)
 rintro ak q1 H bt
 unfold kx at H
 refine .A 8 [.i (kb.length:Int)] rfl (gC.n rfl rfl) (.ite H rfl (λH=>?_) (λH=>?_))
 ·obtain ⟨cA,H⟩:=ab H
  refine .A 12 [.d (.ro (rS (nth kb ak.toNat)))] rfl (gC.ix rfl rfl rfl cA) (.ite H rfl (λH=>?_) (λH=>?_))
  ·refine .E 4 rfl (.R func73 results73 rfl ?_)
   cases H
   cases bt
   exact .m rfl (.av _)
  ·obtain ⟨cP,H⟩:=ab H
   refine .A 7 [.i (ak+1)] rfl (ay rfl rfl cP) ?_
   cases H
   exact .z bt rfl rfl
 ·refine .E 5 rfl (.R func73 results73 rfl ?_)
  cases H
  cases bt
  exact .m rfl (.av _)
theorem Ae {aU:ah} {c9:O uA} {r:Bool} (H:mI aU c9=some r):aB prog 72 [.agg (ah.row aU),cS c9] (·=cB r):=by
 refine aB.aS func72 rfl ntmps72 rfl λS hS=>?_
 unfold mI at H
 refine .A 11 [.r 0] rfl trivial (.lp H (λak=>[(1,.d (cS c9)),(2,.ref 0 0),(5,.d (cI ak))]) (λak=>⟨[.row 115 [.d (ag 6 aw.eQ aU.au),.d (ag 8 Sub.row aU.aN),.d (ag 1 rI aU.ended)]],[]⟩) (.k3 rfl rfl rfl (.nil)) rfl ?_)
 rintro ak q1 H bt
 unfold iy at H
 refine .A 9 [.i (aU.aN.length:Int)] rfl (qX.n rfl rfl) (.ite H rfl (λH=>?_) (λH=>?_))
 ·obtain ⟨cA,H⟩:=ab H
  obtain ⟨y1,dI,H⟩:=af H
  refine .A 14 [.d (.ro (Sub.row (nth aU.aN ak.toNat))),.b y1] rfl ⟨ax (en 9 rfl) rfl rfl (m3 dI),qX.ix rfl rfl rfl cA⟩ (.ite H rfl (λH=>?_) (λH=>?_))
  ·refine .E 4 rfl (.R func72 results72 rfl ?_)
   cases H
   cases bt
   exact .m rfl (.av _)
  ·obtain ⟨cP,H⟩:=ab H
   refine .A 7 [.i (ak+1)] rfl (ay rfl rfl cP) ?_
   cases H
   exact .z bt rfl rfl
 ·refine .E 5 rfl (.R func72 results72 rfl ?_)
  cases H
  cases bt
  exact .m rfl (.av _)
theorem Af {v0:ah} {v1:Event} {r:Int} (H:mJ v0 v1=some r):aB prog 55 [.agg (ah.row v0),.agg (Event.row v1)] (·=cI r):=by
 refine aB.aS func55 rfl ntmps55 rfl λS hS=>?_
 unfold mJ at H
 obtain ⟨y1,dI,H⟩:=af H
 refine .A 20 [.r 0,.r 1,.i y1] rfl (ax (en 7 rfl) rfl rfl (m0 dI)) (.ite H rfl (λH=>?_) (λH=>?_))
 ·refine .E 4 rfl (.R func55 results55 rfl ?_)
  cases H
  exact .m rfl (.av _)
 ·obtain ⟨y2,gN,H⟩:=af H
  refine .A 9 [.b y2] rfl (ax (en 5 rfl) rfl rfl (mB gN)) (.ite H rfl (λH=>?_) (λH=>?_))
  ·refine .E 4 rfl (.R func55 results55 rfl ?_)
   cases H
   exact .m rfl (.av _)
  ·obtain ⟨cA,H⟩:=ab H
   refine .A 23 [.d (.ro (Sub.row (nth v0.aN y1.toNat))),.r 2] rfl (qX.ix rfl rfl rfl cA) (.ite H rfl (λH=>?_) (λH=>?_))
   ·obtain ⟨y3,mA,H⟩:=af H
    refine .A 7 [.b y3] rfl (ax (en 10 rfl) rfl rfl (Ae mA)) (.ite H rfl (λH=>?_) (λH=>?_))
    ·refine .E 4 rfl (.R func55 results55 rfl ?_)
     cases H
     exact .m rfl (.av _)
    ·refine .E 6 rfl (.R func55 results55 rfl ?_)
     cases H
     exact .m rfl (.av _)
   ·refine .E 5 rfl (.ite H rfl (λH=>?_) (λH=>?_))
    ·obtain ⟨y4,vf,H⟩:=af H
     refine .A 9 [.b y4] rfl (ax (en 9 rfl) rfl rfl (m3 vf)) (.ite H rfl (λH=>?_) (λH=>?_))
     ·refine .E 4 rfl (.R func55 results55 rfl ?_)
      cases H
      exact .m rfl (.av _)
     ·refine .E 6 rfl (.R func55 results55 rfl ?_)
      cases H
      exact .m rfl (.av _)
    ·refine .E 5 rfl (.ite H rfl (λH=>?_) (λH=>?_))
     ·obtain ⟨y5,Ad,H⟩:=af H
      refine .A 8 [.b y5] rfl (ax (en 9 rfl) rfl rfl (m3 Ad)) (.ite H rfl (λH=>?_) (λH=>?_))
      ·refine .E 4 rfl (.R func55 results55 rfl ?_)
       cases H
       exact .m rfl (.av _)
      ·refine .E 6 rfl (.R func55 results55 rfl ?_)
       cases H
       exact .m rfl (.av _)
     ·refine .E 5 rfl (.ite H rfl (λH=>?_) (λH=>?_))
      ·obtain ⟨y6,Gc,H⟩:=af H
       refine .A 9 [.b y6] rfl (ax (en 9 rfl) rfl rfl (m3 Gc)) (.ite H rfl (λH=>?_) (λH=>?_))
       ·refine .E 4 rfl (.R func55 results55 rfl ?_)
        cases H
        exact .m rfl (.av _)
       ·refine .E 6 rfl (.R func55 results55 rfl ?_)
        cases H
        exact .m rfl (.av _)
      ·refine .di (ι:=Bool) (λA0=>[(3,.ref 1 0),(6,.ref 2 0),(23,.d (cI v1.kind)),(53,.d (cB A0))]) (λA0=>⟨[.row 115 [.d (ag 6 aw.eQ v0.au),.d (ag 8 Sub.row v0.aN),.d (ag 1 rI v0.ended)],.row 118 [.d (cI v1.at_),.d (cI v1.kind),.d (cI v1.aH),.d (cI v1.sub),.d (cS v1.number),.d (cS v1.name),.d (cI v1.value)],.row 138 [.d (cI (nth v0.aN y1.toNat).id),.d (cI (nth v0.aN y1.toNat).aH),.d (cI (nth v0.aN y1.toNat).since),.d (cS (nth v0.aN y1.toNat).qY),.d (ag 1 rS (nth v0.aN y1.toNat).numbers),.d (ag 1 rS (nth v0.aN y1.toNat).bY),.d (cB (nth v0.aN y1.toNat).aV),.d (cB (nth v0.aN y1.toNat).family)]],[]⟩) (λs=>fQ v0 v1 y1 s=some r) ?_ ?_
       ·rintro A0 H
        replace H:fQ v0 v1 y1 A0=some r:=H
        unfold fQ at H
        refine .ite H rfl (λH=>?_) (λH=>?_)
        ·refine .A 9 [.b (((nth v0.aN y1.toNat).aV)==(v1.kind==10))] rfl (az.g (JI rfl underlying4 rfl)) (.ite H rfl (λH=>?_) (λH=>?_))
         ·refine .E 4 rfl (.R func55 results55 rfl ?_)
          cases H
          exact .m rfl (.av _)
         ·refine .E 6 rfl (.R func55 results55 rfl ?_)
          cases H
          exact .m rfl (.av _)
        ·refine .di (ι:=Bool) (λAZ=>[(3,.ref 1 0),(6,.ref 2 0),(62,.d (cB AZ))]) (λAZ=>⟨[.row 115 [.d (ag 6 aw.eQ v0.au),.d (ag 8 Sub.row v0.aN),.d (ag 1 rI v0.ended)],.row 118 [.d (cI v1.at_),.d (cI v1.kind),.d (cI v1.aH),.d (cI v1.sub),.d (cS v1.number),.d (cS v1.name),.d (cI v1.value)],.row 138 [.d (cI (nth v0.aN y1.toNat).id),.d (cI (nth v0.aN y1.toNat).aH),.d (cI (nth v0.aN y1.toNat).since),.d (cS (nth v0.aN y1.toNat).qY),.d (ag 1 rS (nth v0.aN y1.toNat).numbers),.d (ag 1 rS (nth v0.aN y1.toNat).bY),.d (cB (nth v0.aN y1.toNat).aV),.d (cB (nth v0.aN y1.toNat).family)]],[]⟩) (λs=>fP v0 v1 y1 s=some r) ?_ ?_
         ·rintro AZ H
          replace H:fP v0 v1 y1 AZ=some r:=H
          unfold fP at H
          refine .ite H rfl (λH=>?_) (λH=>?_)
          ·refine .A 9 [.b (((nth v0.aN y1.toNat).family)==(v1.kind==12))] rfl (az.g (JI rfl underlying4 rfl)) (.ite H rfl (λH=>?_) (λH=>?_))
           ·refine .E 4 rfl (.R func55 results55 rfl ?_)
            cases H
            exact .m rfl (.av _)
           ·refine .E 6 rfl (.R func55 results55 rfl ?_)
            cases H
            exact .m rfl (.av _)
          ·refine .E 6 rfl (.R func55 results55 rfl ?_)
           cases H
           exact .m rfl (.av _)
         ·intro ru
          refine .E 5 rfl (.ite H rfl (λH=>?_) (λH=>?_))
          ·exact .E 1 rfl (.z (ru (v1.kind==12) H) rfl rfl)
          ·exact .E 4 rfl (.z (ru (v1.kind==13) H) rfl rfl)
       ·intro ly
        refine .E 5 rfl (.ite H rfl (λH=>?_) (λH=>?_))
        ·exact .E 1 rfl (.z (ly (v1.kind==10) H) rfl rfl)
        ·exact .E 4 rfl (.z (ly (v1.kind==11) H) rfl rfl)
theorem Ag {aU:ah} {pZ:Event} {lP r:Int} (H:kc aU pZ lP=some r):aB prog 45 [.agg (ah.row aU),.agg (Event.row pZ),cI lP] (·=cI r):=by
 obtain ⟨i4,A5,Ws,A6,Wu⟩:=Qg
 refine aB.aS func45 rfl ntmps45 rfl λS hS=>?_
 unfold kc at H
 obtain ⟨y1,dI,H⟩:=af H
 refine .A 19 [.r 0,.r 1,.i y1] rfl (ax (en 11 rfl) rfl rfl (Ca dI)) (.ite H rfl (λH=>?_) (λH=>?_))
 ·refine .E 5 rfl (.R func45 results45 rfl ?_)
  cases H
  exact .m rfl (.av _)
 ·obtain ⟨y2,gN,H⟩:=af H
  refine .A 9 [.d (.agg [cB (nth y2 0),cB (nth y2 1),cB (nth y2 2),cB (nth y2 3),cB (nth y2 4)]),.b (nth y2 0)] rfl ⟨az.g (Dj (m:=0) underlying130 SR A5 A6 rfl rfl rfl (by decide) rfl),ax (en 0 rfl) rfl rfl (ve gN)⟩ (.ite H rfl (λH=>?_) (λH=>?_))
  ·obtain ⟨y3,mA,H⟩:=af H
   refine .A 7 [.i y3] rfl (ax (en 12 rfl) rfl rfl (vg mA)) (.R func45 results45 rfl ?_)
   cases H
   exact .m rfl (.av _)
  ·obtain ⟨y4,vf,H⟩:=af H
   refine .A 8 [.i y4] rfl (ax (en 13 rfl) rfl rfl (Af vf)) (.R func45 results45 rfl ?_)
   cases H
   exact .m rfl (.av _)
theorem vh {kb:O (O uA)} {su:O uA} {r:(O (O uA))} (H:lQ kb su=some r):aB prog 74 [ag 1 rS kb,cS su] (·=ag 1 rS r):=by
 obtain ⟨i9,MB,QG,MC,Vr⟩:=KH
 refine aB.aS func74 rfl ntmps74 rfl λS hS=>?_
 unfold lQ at H
 refine .E 9 rfl (.bw (ι:=Int) (λbS=>[(0,.d (ag 1 rS kb)),(1,.d (cS su)),(5,.d (cI bS))]) (λbS=>⟨[],[]⟩) (λs=>gS kb su s=some r) ?_ ?_)
 ·rintro bS H
  replace H:gS kb su bS=some r:=H
  unfold gS at H
  obtain ⟨cA,H⟩:=ab H
  obtain ⟨cP,H⟩:=ab H
  obtain ⟨dD,H⟩:=ab H
  obtain ⟨dY,H⟩:=ab H
  obtain ⟨fh,H⟩:=ab H
  refine let z0:=(([]:O (O uA))++(kb.take bS.toNat));.A 26 [.n (.bX 1 (([]:O (O uA)).map rS) 0) (DT ([]:O (O uA)).length),.d (ag 1 rS (kb.take bS.toNat)),.a 0 9 1 rS z0,.d (ag 1 rS ([su]:O (O uA))),.a 0 9 1 rS (z0++([su]:O (O uA))),.d (ag 1 rS (kb.drop bS.toNat)),.a 0 9 1 rS ((z0++([su]:O (O uA)))++(kb.drop bS.toNat))] rfl ⟨gC.a rfl rfl rfl rfl fh,az.g (ye (l:=kb) (row:=rS) underlying136 MB MC rfl rfl rfl dY),gC.a rfl rfl rfl rfl dD,aC underlying136 MB MC QG rfl rfl rfl rfl rfl,gC.a rfl rfl rfl rfl cP,az.g (FN (l:=kb) (row:=rS) underlying136 MB MC rfl rfl rfl cA),.e (lL underlying136 MB MC) rfl⟩ ?_
  refine .R func74 results74 rfl ?_
  cases H
  exact .m rfl (.bX _ _ _)
 ·intro ly eF
  refine .lp H (λcE=>[(0,.d (ag 1 rS kb)),(1,.d (cS su)),(5,.d (cI cE))]) (λcE=>⟨[],[]⟩) (.k3 rfl rfl rfl (.nil)) rfl ?_
  rintro cE q1 H bt
  unfold pE at H
  obtain ⟨gM,H⟩:=ab H
  refine .A 16 [.i (kb.length:Int),.d (.ro (rS (nth kb cE.toNat))),.b (ou (nth kb cE.toNat) su)] rfl ⟨rfl,λhg=>az.g (Qf rfl rfl),rfl,rfl,rfl,λhg=>gC.ix rfl rfl rfl (gM hg),rfl,rfl,gC.n rfl rfl⟩ (.ite H rfl (λH=>?_) (λH=>?_))
  ·obtain ⟨jX,H⟩:=ab H
   refine .A 8 [.i (cE+1)] rfl (ay rfl rfl jX) ?_
   cases H
   exact .z bt rfl rfl
  ·refine .E 1 rfl ?_
   obtain ⟨q0,H9,lz⟩:=bK H;clear H;cases lz
   cases bt
   have H:=H9
   exact .z (eF cE H) rfl rfl
theorem rK {kb:O (O uA)} {su:O uA} {r:(O (O uA))} (H:gT kb su=some r):aB prog 75 [ag 1 rS kb,cS su] (·=ag 1 rS r):=by
 obtain ⟨i9,MB,QG,MC,Vr⟩:=KH
 refine aB.aS func75 rfl ntmps75 rfl λS hS=>?_
 unfold gT at H
 refine .E 14 rfl (.tok (i:=5) (e:=9) (sz:=1) rfl (.lp H (λ⟨bZ,bk⟩=>[(0,.d (ag 1 rS kb)),(1,.d (cS su)),(5,.bX 1 (bZ.map rS) 0),(6,.d (cI bk))]) (λ⟨bZ,bk⟩=>⟨[],[DT bZ.length]⟩) (.k4 rfl rfl rfl rfl (.nil)) rfl ?_))
 rintro ⟨bZ,bk⟩ q1 H bt
 dsimp only at H
 unfold lR at H
 refine .A 8 [.i (kb.length:Int)] rfl (gC.n rfl rfl) (.ite H rfl (λH=>?_) (λH=>?_))
 ·obtain ⟨cA,H⟩:=ab H
  refine .A 12 [.d (.ro (rS (nth kb bk.toNat)))] rfl (gC.ix rfl rfl rfl cA) (.ite H rfl (λH=>?_) (λH=>?_))
  ·obtain ⟨cP,H⟩:=ab H
   obtain ⟨dD,H⟩:=ab H
   obtain ⟨dY,H⟩:=ab H
   refine .A 16 [.d (.ro (rS (nth kb bk.toNat))),.d (ag 1 rS ([nth kb bk.toNat]:O (O uA))),.a 0 9 1 rS (bZ++([nth kb bk.toNat]:O (O uA))),.i (bk+1)] rfl ⟨ay rfl rfl dY,gC.a rfl rfl rfl rfl dD,aC underlying136 MB MC QG rfl rfl rfl rfl rfl,gC.ix rfl rfl rfl cP⟩ ?_
   cases H
   exact .z bt rfl rfl
  ·obtain ⟨fh,H⟩:=ab H
   refine .A 7 [.i (bk+1)] rfl (ay rfl rfl fh) ?_
   cases H
   exact .z bt rfl rfl
 ·refine .E 6 rfl (.R func75 results75 rfl ?_)
  cases H
  cases bt
  exact .m rfl (.bX _ _ _)
theorem w6 {bg r:Sub} {pZ:Event} (H:jC bg pZ=some r):aB prog 58 [.agg (Sub.row bg),.agg (Event.row pZ)] (·=.agg (Sub.row r)):=by
 refine aB.aS func58 rfl ntmps58 rfl λS hS=>?_
 unfold jC at H
 refine .A 18 [.r 0,.r 1,.r 2] rfl trivial (.ite H rfl (λH=>?_) (λH=>?_))
 ·refine .E 15 rfl (.R func58 results58 rfl ?_)
  cases H
  exact .m rfl (.d (.agg ⟨.av _,.av _,.av _,.av _,.nil 1,.nil 1,.av _,.av _,trivial⟩))
 ·refine .E 5 rfl (.ite H rfl (λH=>?_) (λH=>?_))
  ·obtain ⟨y1,dI,H⟩:=af H
   refine .A 15 [.d (ag 1 rS y1)] rfl (ax (en 14 rfl) rfl rfl (vh dI)) (.R func58 results58 rfl ?_)
   cases H
   exact .m rfl (.av _)
  ·refine .E 5 rfl (.ite H rfl (λH=>?_) (λH=>?_))
   ·obtain ⟨y2,gN,H⟩:=af H
    refine .A 15 [.d (ag 1 rS y2)] rfl (ax (en 15 rfl) rfl rfl (rK gN)) (.R func58 results58 rfl ?_)
    cases H
    exact .m rfl (.av _)
   ·refine .E 5 rfl (.ite H rfl (λH=>?_) (λH=>?_))
    ·refine .E 12 rfl (.R func58 results58 rfl ?_)
     cases H
     exact .m rfl (.av _)
    ·refine .E 5 rfl (.ite H rfl (λH=>?_) (λH=>?_))
     ·obtain ⟨y3,mA,H⟩:=af H
      refine .A 15 [.d (ag 1 rS y3)] rfl (ax (en 14 rfl) rfl rfl (vh mA)) (.R func58 results58 rfl ?_)
      cases H
      exact .m rfl (.av _)
     ·refine .E 5 rfl (.ite H rfl (λH=>?_) (λH=>?_))
      ·obtain ⟨y4,vf,H⟩:=af H
       refine .A 15 [.d (ag 1 rS y4)] rfl (ax (en 15 rfl) rfl rfl (rK vf)) (.R func58 results58 rfl ?_)
       cases H
       exact .m rfl (.av _)
      ·refine .E 5 rfl (.ite H rfl (λH=>?_) (λH=>?_))
       ·refine .E 10 rfl (.R func58 results58 rfl ?_)
        cases H
        exact .m rfl (.av _)
       ·refine .E 5 rfl (.ite H rfl (λH=>?_) (λH=>?_))
        ·refine .E 10 rfl (.R func58 results58 rfl ?_)
         cases H
         exact .m rfl (.av _)
        ·refine .E 5 rfl (.ite H rfl (λH=>?_) (λH=>?_))
         ·refine .E 10 rfl (.R func58 results58 rfl ?_)
          cases H
          exact .m rfl (.av _)
         ·refine .E 5 rfl (.ite H rfl (λH=>?_) (λH=>?_))
          ·refine .E 10 rfl (.R func58 results58 rfl ?_)
           cases H
           exact .m rfl (.av _)
          ·refine .E 7 rfl (.R func58 results58 rfl ?_)
           cases H
           exact .m rfl (.av _)
theorem tG {v0 r:ah} {v1:Event} (H:dQ v0 v1=some r):aB prog 46 [.agg (ah.row v0),.agg (Event.row v1)] (·=.agg (ah.row r)):=by
 obtain ⟨i3,ji,rL,mc,Fp⟩:=u3
 obtain ⟨i115,DV,DW,O2,O3⟩:=F1
 obtain ⟨i134,tH,yM,vi,Hr⟩:=F2
 obtain ⟨i138,oQ,vj,qo,DX⟩:=BZ
 refine aB.aS func46 rfl ntmps46 rfl λS hS=>?_
 unfold dQ at H
 refine .A 7 [.r 0,.r 1,.r 2] rfl trivial (.P8 (e:=134) (sz:=6) (.P8 (e:=138) (sz:=8) (.P8 (e:=3) (sz:=1) ?_)))
 obtain ⟨cA,H⟩:=ab H
 obtain ⟨cP,H⟩:=ab H
 obtain ⟨dD,H⟩:=ab H
 refine let z0:fm:=.row 118 [.d (cI v1.at_),.d (cI v1.kind),.d (cI v1.aH),.d (cI v1.sub),.d (cS v1.number),.d (cS v1.name),.d (cI v1.value)];let z1:fm:=.row 115 [.d (ag 6 aw.eQ v0.au),.d (ag 8 Sub.row v0.aN),.d (ag 1 rI v0.ended)];let z2:fm:=.row 115 [.d bT,.d bT,.d bT];let z3:=(([]:O aw)++v0.au);let z4:=(([]:O aw).map aw.eQ);let z5:=(([]:O Int)++v0.ended);let z6:=(([]:O Sub)++v0.aN);.parts 14 [3,7,11,13] [⟨[z1,z0,z2],[⟨134,6,0,some z4⟩,Sub.pY 0 ([]:O Sub),⟨3,1,0,some (([]:O Int).map rI)⟩]⟩,⟨[z1,z0,z2],[⟨134,6,z3.length,some (z3.map aw.eQ)⟩,Sub.pY 0 ([]:O Sub),⟨3,1,0,some (([]:O Int).map rI)⟩]⟩,⟨[z1,z0,z2],[⟨134,6,0,some z4⟩,Sub.pY 0 ([]:O Sub),⟨3,1,0,some (([]:O Int).map rI)⟩]⟩,⟨[z1,z0,z2],[⟨134,6,z3.length,some (z3.map aw.eQ)⟩,Sub.yx z6,⟨3,1,0,some (([]:O Int).map rI)⟩]⟩,⟨[z1,z0,z2],[⟨134,6,0,some z4⟩,Sub.pY 0 ([]:O Sub),⟨3,1,0,some (([]:O Int).map rI)⟩]⟩,⟨[z1,z0,z2],[⟨134,6,0,some z4⟩,Sub.pY 0 ([]:O Sub),⟨3,1,0,some (([]:O Int).map rI)⟩]⟩,⟨[z1,z0,z2],[⟨134,6,0,some z4⟩,Sub.pY 0 ([]:O Sub),⟨3,1,0,some (([]:O Int).map rI)⟩]⟩,⟨[z1,z0,z2],[⟨134,6,z3.length,some (z3.map aw.eQ)⟩,Sub.yx z6,⟨3,1,z5.length,some (z5.map rI)⟩]⟩,⟨[z1,z0,z2,z2],[⟨134,6,0,some z4⟩,Sub.pY 0 ([]:O Sub),⟨3,1,0,some (([]:O Int).map rI)⟩]⟩,⟨[z1,z0,z2,z2],[⟨134,6,z3.length,some (z3.map aw.eQ)⟩,Sub.pY 0 ([]:O Sub),⟨3,1,0,some (([]:O Int).map rI)⟩]⟩,⟨[z1,z0,z2],[⟨134,6,0,some z4⟩,Sub.pY 0 ([]:O Sub),⟨3,1,0,some (([]:O Int).map rI)⟩]⟩,⟨[z1,z0,z2,z2],[⟨134,6,z3.length,some (z3.map aw.eQ)⟩,Sub.yx z6,⟨3,1,0,some (([]:O Int).map rI)⟩]⟩,⟨[z1,z0,z2],[⟨134,6,0,some z4⟩,Sub.pY 0 ([]:O Sub),⟨3,1,0,some (([]:O Int).map rI)⟩]⟩,⟨[z1,z0,z2],[⟨134,6,0,some z4⟩,Sub.pY 0 ([]:O Sub),⟨3,1,0,some (([]:O Int).map rI)⟩]⟩,⟨[z1,z0,z2],[⟨134,6,0,some z4⟩,Sub.pY 0 ([]:O Sub),⟨3,1,0,some (([]:O Int).map rI)⟩]⟩,⟨[z1,z0,z2,z2],[⟨134,6,z3.length,some (z3.map aw.eQ)⟩,Sub.yx z6,⟨3,1,z5.length,some (z5.map rI)⟩]⟩] wa (by kernel_rfl) rfl (by decide) rfl ?_
 show v7 _ _ _ _ _ _ _ _ _ _ (_::_) _ _
 refine .g (x:=.d (.e0 6)) [0,8] ⟨⟨_,rfl,(vi▸bp underlying112 tH)⟩,⟨_,rfl,(vi▸bp underlying112 tH)⟩,trivial⟩ rfl (by kernel_rfl) rfl (.s (x:=.ref 0 0) (λs=>lF KN rfl) rfl rfl (.g (x:=.d (ag 6 aw.eQ v0.au)) [0,8] ⟨⟨_,rfl,az.g (fK Hk rfl rfl rfl)⟩,⟨_,rfl,az.g (fK Hk rfl rfl rfl)⟩,trivial⟩ rfl (by kernel_rfl) rfl ?_))
 refine .v (x:=.vc 0 (([]:O aw)++v0.au).length) 0 [0,8] ⟨⟨_,_,rfl,rfl,lM (l':=v0.au) (row:=aw.eQ) underlying112 tH yM vi rfl (by rw[Hr];decide) rfl (.inl rfl) rfl rfl rfl cA⟩,⟨_,_,rfl,rfl,lM (l':=v0.au) (row:=aw.eQ) underlying112 tH yM vi rfl (by rw[Hr];decide) rfl (.inl rfl) rfl rfl rfl cA⟩,trivial⟩ rfl (by kernel_rfl) rfl ?_
 refine .g (x:=.d (.e0 8)) [0,1,8,9] ⟨⟨_,rfl,(qo▸bp underlying113 oQ)⟩,⟨_,rfl,(qo▸bp underlying113 oQ)⟩,⟨_,rfl,(qo▸bp underlying113 oQ)⟩,⟨_,rfl,(qo▸bp underlying113 oQ)⟩,trivial⟩ rfl (by kernel_rfl) rfl (.s (x:=.ref 0 1) (λs=>lF KO rfl) rfl rfl (.g (x:=.d (ag 8 Sub.row v0.aN)) [0,1,8,9] ⟨⟨_,rfl,az.g (fK xq rfl rfl rfl)⟩,⟨_,rfl,az.g (fK xq rfl rfl rfl)⟩,⟨_,rfl,az.g (fK xq rfl rfl rfl)⟩,⟨_,rfl,az.g (fK xq rfl rfl rfl)⟩,trivial⟩ rfl (by kernel_rfl) rfl ?_))
 refine .v (x:=.vc 1 (([]:O Sub)++v0.aN).length) 1 [1,9] ⟨⟨_,_,rfl,rfl,lM (l':=v0.aN) (row:=Sub.row) underlying113 oQ vj qo rfl (by rw[DX];decide) rfl (.inl rfl) rfl rfl rfl cP⟩,⟨_,_,rfl,rfl,lM (l':=v0.aN) (row:=Sub.row) underlying113 oQ vj qo rfl (by rw[DX];decide) rfl (.inl rfl) rfl rfl rfl cP⟩,trivial⟩ rfl (by kernel_rfl) rfl ?_
 refine .g (x:=.d (.e0 1)) [0,1,3,8,9,11] ⟨⟨_,rfl,(mc▸bp underlying100 ji)⟩,⟨_,rfl,(mc▸bp underlying100 ji)⟩,⟨_,rfl,(mc▸bp underlying100 ji)⟩,⟨_,rfl,(mc▸bp underlying100 ji)⟩,⟨_,rfl,(mc▸bp underlying100 ji)⟩,⟨_,rfl,(mc▸bp underlying100 ji)⟩,trivial⟩ rfl (by kernel_rfl) rfl (.s (x:=.ref 0 2) (λs=>lF KP rfl) rfl rfl (.g (x:=.d (ag 1 rI v0.ended)) [0,1,3,8,9,11] ⟨⟨_,rfl,az.g (fK s9 rfl rfl rfl)⟩,⟨_,rfl,az.g (fK s9 rfl rfl rfl)⟩,⟨_,rfl,az.g (fK s9 rfl rfl rfl)⟩,⟨_,rfl,az.g (fK s9 rfl rfl rfl)⟩,⟨_,rfl,az.g (fK s9 rfl rfl rfl)⟩,⟨_,rfl,az.g (fK s9 rfl rfl rfl)⟩,trivial⟩ rfl (by kernel_rfl) rfl ?_))
 refine .v (x:=.vc 2 (([]:O Int)++v0.ended).length) 2 [3,11] ⟨⟨_,_,rfl,rfl,lM (l':=v0.ended) (row:=rI) underlying100 ji rL mc rfl (by rw[Fp];decide) rfl (.inl rfl) rfl rfl rfl dD⟩,⟨_,_,rfl,rfl,lM (l':=v0.ended) (row:=rI) underlying100 ji rL mc rfl (by rw[Fp];decide) rfl (.inl rfl) rfl rfl rfl dD⟩,trivial⟩ rfl (by kernel_rfl) rfl ?_
 refine .s (x:=.agg [.vc 0 (([]:O aw)++v0.au).length,.vc 1 (([]:O Sub)++v0.aN).length,.vc 2 (([]:O Int)++v0.ended).length]) (λs=>Kw F5 DV DW rfl rfl) rfl rfl (.v (x:=.ref 3 0) 3 [0,1,3,7] ⟨⟨_,_,rfl,rfl,o8 yw rfl⟩,⟨_,_,rfl,rfl,o8 yw rfl⟩,⟨_,_,rfl,rfl,o8 yw rfl⟩,⟨_,_,rfl,rfl,o8 yw rfl⟩,trivial⟩ rfl (by kernel_rfl) rfl (.nil rfl ?_))
 show cn _ _ _ _ _ _ (_::_) _ _ _
 refine .E 14 rfl (.ite H rfl (λH=>?_) (λH=>?_))
 ·obtain ⟨dY,H⟩:=ab H
  refine let z1:=(v1.name==([112,114,101,112,97,105,100]:O uA));let z0:=((([]:O aw)++v0.au)++([(⟨v1.aH,v1.at_,v1.value,z1,false,([]:O Int)⟩:aw)]:O aw));.B 21 [.d (.agg [cI v1.aH,cI v1.at_,cI v1.value,cB z1,cB false,bT]),.d (ag 6 aw.eQ ([(⟨v1.aH,v1.at_,v1.value,z1,false,([]:O Int)⟩:aw)]:O aw)),.t (.vc 0 z0.length) 0 ⟨134,6,z0.length,some (z0.map aw.eQ)⟩] rfl ⟨.e (vZ (l:=([]:O aw)++v0.au) (l':=([(⟨v1.aH,v1.at_,v1.value,z1,false,([]:O Int)⟩:aw)]:O aw)) (row:=aw.eQ) underlying112 tH yM vi rfl (by rw[Hr];decide) rfl rfl rfl rfl dY) rfl,ti.le (aC underlying112 tH vi yM rfl rfl rfl rfl rfl) (dB.d (.sl ⟨⟨.av _,.av _,.av _,.av _,.av _,.Vl 1,trivial⟩,trivial⟩)),az.g (aK Qq tH yM rfl rfl)⟩ ?_
  refine .freezeCell (l:=(([]:O aw)++v0.au)++([(⟨v1.aH,v1.at_,v1.value,(v1.name==([112,114,101,112,97,105,100]:O uA)),false,([]:O Int)⟩:aw)]:O aw)) (row:=aw.eQ) 3 0 rfl rfl rfl (.freezeCell (l:=([]:O Sub)++v0.aN) (row:=Sub.row) 3 1 rfl rfl rfl (.freezeCell (l:=([]:O Int)++v0.ended) (row:=rI) 3 2 rfl rfl rfl (.E 3 rfl (.R func46 results46 rfl ?_))))
  cases H
  exact .m rfl (.av _)
 ·refine .E 5 rfl (.ite H rfl (λH=>?_) (λH=>?_))
  ·obtain ⟨y1,dI,H⟩:=af H
   obtain ⟨fh,H⟩:=ab H
   obtain ⟨gM,H⟩:=ab H
   refine let z0:=(([]:O aw)++v0.au);let z1:=(([]:O Int)++v0.ended);.B 15 [.p 8,.i y1,.g (.vp 0 z0.length y1.toNat 0),.w 5 ⟨[.row 115 [.d (ag 6 aw.eQ v0.au),.d (ag 8 Sub.row v0.aN),.d (ag 1 rI v0.ended)],.row 118 [.d (cI v1.at_),.d (cI v1.kind),.d (cI v1.aH),.d (cI v1.sub),.d (cS v1.number),.d (cS v1.name),.d (cI v1.value)],.row 115 [.d bT,.d bT,.d bT],.row 115 [.vc 0 z0.length,.vc 1 (([]:O Sub)++v0.aN).length,.vc 2 z1.length]],[⟨134,6,z0.length,some ((z0.set y1.toNat (⟨(nth z0 y1.toNat).id,(nth z0 y1.toNat).since,(nth z0 y1.toNat).anchor,(nth z0 y1.toNat).ja,true,([]:O Int)⟩:aw)).map aw.eQ)⟩,Sub.yx (([]:O Sub)++v0.aN),⟨3,1,z1.length,some (z1.map rI)⟩]⟩] rfl ⟨.e (Du (l:=([]:O aw)++v0.au) (row:=aw.eQ) (a:=(⟨(nth z0 y1.toNat).id,(nth z0 y1.toNat).since,(nth z0 y1.toNat).anchor,(nth z0 y1.toNat).ja,true,([]:O Int)⟩:aw)) rfl rfl gM rfl rfl Vn rfl (Nat.le_of_ble_eq_true rfl) rfl) rfl,az.g (FP (l:=([]:O aw)++v0.au) (row:=aw.eQ) (i:=y1) underlying112 tH vi rfl rfl rfl fh),ax (en 6 rfl) rfl rfl (nj dI),(show _=true by kernel_rfl)⟩ ?_
   refine let z0:=(([]:O aw)++v0.au);.freezeCell (l:=z0.set y1.toNat (⟨(nth z0 y1.toNat).id,(nth z0 y1.toNat).since,(nth z0 y1.toNat).anchor,(nth z0 y1.toNat).ja,true,([]:O Int)⟩:aw)) (row:=aw.eQ) 3 0 rfl rfl rfl ?_
   refine .freezeCell (l:=([]:O Sub)++v0.aN) (row:=Sub.row) 3 1 rfl rfl rfl (.freezeCell (l:=([]:O Int)++v0.ended) (row:=rI) 3 2 rfl rfl rfl (.E 3 rfl (.R func46 results46 rfl ?_)))
   cases H
   exact .m rfl (.av _)
  ·refine .E 5 rfl (.ite H rfl (λH=>?_) (λH=>?_))
   ·obtain ⟨jX,H⟩:=ab H
    refine let z0:=((([]:O Sub)++v0.aN)++([(⟨v1.sub,v1.aH,v1.at_,v1.name,([]:O (O uA)),([]:O (O uA)),false,false⟩:Sub)]:O Sub));.B 20 [.d (.agg (Sub.row (⟨v1.sub,v1.aH,v1.at_,v1.name,([]:O (O uA)),([]:O (O uA)),false,false⟩:Sub))),.d (ag 8 Sub.row ([(⟨v1.sub,v1.aH,v1.at_,v1.name,([]:O (O uA)),([]:O (O uA)),false,false⟩:Sub)]:O Sub)),.t (.vc 1 z0.length) 1 (Sub.yx z0)] rfl ⟨.e (vZ (l:=([]:O Sub)++v0.aN) (l':=([(⟨v1.sub,v1.aH,v1.at_,v1.name,([]:O (O uA)),([]:O (O uA)),false,false⟩:Sub)]:O Sub)) (row:=Sub.row) underlying113 oQ vj qo rfl (by rw[DX];decide) rfl rfl rfl rfl jX) rfl,aC underlying113 oQ qo vj rfl rfl rfl rfl rfl,az.g (az.le (aK KQ oQ vj rfl rfl) (dB.d (.agg ⟨.av _,.av _,.av _,.av _,.nil 1,.nil 1,.av _,.av _,trivial⟩)))⟩ ?_
    refine .freezeCell (l:=([]:O aw)++v0.au) (row:=aw.eQ) 3 0 rfl rfl rfl (.freezeCell (l:=(([]:O Sub)++v0.aN)++([(⟨v1.sub,v1.aH,v1.at_,v1.name,([]:O (O uA)),([]:O (O uA)),false,false⟩:Sub)]:O Sub)) (row:=Sub.row) 3 1 rfl rfl rfl (.freezeCell (l:=([]:O Int)++v0.ended) (row:=rI) 3 2 rfl rfl rfl (.E 3 rfl (.R func46 results46 rfl ?_))))
    cases H
    exact .m rfl (.av _)
   ·refine let z0:=(([]:O aw)++v0.au);let z1:=(([]:O Int)++v0.ended);.di (ι:=Bool) (λA1=>[(2,.ref 0 0),(3,.ref 1 0),(4,.ref 2 0),(5,.ref 3 0),(90,.d (cB A1))]) (λA1=>⟨[.row 115 [.d (ag 6 aw.eQ v0.au),.d (ag 8 Sub.row v0.aN),.d (ag 1 rI v0.ended)],.row 118 [.d (cI v1.at_),.d (cI v1.kind),.d (cI v1.aH),.d (cI v1.sub),.d (cS v1.number),.d (cS v1.name),.d (cI v1.value)],.row 115 [.d bT,.d bT,.d bT],.row 115 [.vc 0 z0.length,.vc 1 (([]:O Sub)++v0.aN).length,.vc 2 z1.length]],[⟨134,6,z0.length,some (z0.map aw.eQ)⟩,Sub.yx (([]:O Sub)++v0.aN),⟨3,1,z1.length,some (z1.map rI)⟩]⟩) (λs=>eR v0 v1 s=some r) ?_ ?_
    ·rintro A1 H
     replace H:eR v0 v1 A1=some r:=H
     unfold eR at H
     refine .ite H rfl (λH=>?_) (λH=>?_)
     ·refine .F 2 rfl (.freezeCell (l:=([]:O aw)++v0.au) (row:=aw.eQ) 3 0 rfl rfl rfl (.freezeCell (l:=([]:O Sub)++v0.aN) (row:=Sub.row) 3 1 rfl rfl rfl (.freezeCell (l:=([]:O Int)++v0.ended) (row:=rI) 3 2 rfl rfl rfl (.E 3 rfl (.R func46 results46 rfl ?_)))))
      cases H
      exact .m rfl (.av _)
     ·obtain ⟨y2,gN,H⟩:=af H
      obtain ⟨mb,H⟩:=ab H
      obtain ⟨pM,H⟩:=ab H
      obtain ⟨y3,mA,H⟩:=af H
      obtain ⟨gO,H⟩:=ab H
      obtain ⟨m4,H⟩:=ab H
      refine let z0:=(([]:O Sub)++v0.aN);let z1:=(([]:O aw)++v0.au);let z2:=(([]:O Int)++v0.ended);.A 30 [.i y2,.p 11,.g (.vp 1 z0.length y2.toNat 0),.f 13 (.d (.agg (Sub.row (nth z0 y2.toNat)))),.d (.agg (Sub.row y3)),.g (.vp 1 z0.length y2.toNat 0),.w 8 ⟨[.row 115 [.d (ag 6 aw.eQ v0.au),.d (ag 8 Sub.row v0.aN),.d (ag 1 rI v0.ended)],.row 118 [.d (cI v1.at_),.d (cI v1.kind),.d (cI v1.aH),.d (cI v1.sub),.d (cS v1.number),.d (cS v1.name),.d (cI v1.value)],.row 115 [.d bT,.d bT,.d bT],.row 115 [.vc 0 z1.length,.vc 1 z0.length,.vc 2 z2.length]],[⟨134,6,z1.length,some (z1.map aw.eQ)⟩,Sub.pY z0.length (z0.set y2.toNat y3),⟨3,1,z2.length,some (z2.map rI)⟩]⟩] rfl ⟨.e (Du (l:=([]:O Sub)++v0.aN) (row:=Sub.row) (a:=y3) rfl rfl m4 rfl rfl KK rfl (Nat.le_of_ble_eq_true rfl) rfl) rfl,az.g (FP (l:=([]:O Sub)++v0.aN) (row:=Sub.row) (i:=y2) underlying113 oQ qo rfl rfl rfl gO),ax (en 16 rfl) rfl rfl (w6 mA),az.g (Iw (l:=([]:O Sub)++v0.aN) (row:=Sub.row) (cs:=(Sub.row (nth z0 y2.toNat))) Na KK rfl rfl pM (Nat.le_of_ble_eq_true rfl) rfl),az.g (FP (l:=([]:O Sub)++v0.aN) (row:=Sub.row) (i:=y2) underlying113 oQ qo rfl rfl rfl mb),by kernel_rfl,ax (en 7 rfl) rfl rfl (m0 gN)⟩ ?_
      refine .ite H rfl (λH=>?_) (λH=>?_)
      ·obtain ⟨nk,H⟩:=ab H
       refine let z0:=((([]:O Int)++v0.ended)++([v1.sub]:O Int));.B 13 [.d (ag 1 rI ([v1.sub]:O Int)),.t (.vc 2 z0.length) 2 ⟨3,1,z0.length,some (z0.map rI)⟩] rfl ⟨.e (vZ (l:=([]:O Int)++v0.ended) (l':=([v1.sub]:O Int)) (row:=rI) underlying100 ji rL mc rfl (by rw[Fp];decide) rfl rfl rfl rfl nk) rfl,aC underlying100 ji mc rL rfl rfl rfl rfl rfl⟩ ?_
       refine .freezeCell (l:=([]:O aw)++v0.au) (row:=aw.eQ) 3 0 rfl rfl rfl (.freezeCell (l:=(([]:O Sub)++v0.aN).set y2.toNat y3) (row:=Sub.row) 3 1 rfl rfl rfl (.freezeCell (l:=(([]:O Int)++v0.ended)++([v1.sub]:O Int)) (row:=rI) 3 2 rfl rfl rfl (.E 3 rfl (.R func46 results46 rfl ?_))))
       cases H
       exact .m rfl (.av _)
      ·refine .F 4 rfl (.freezeCell (l:=([]:O aw)++v0.au) (row:=aw.eQ) 3 0 rfl rfl rfl (.freezeCell (l:=(([]:O Sub)++v0.aN).set y2.toNat y3) (row:=Sub.row) 3 1 rfl rfl rfl (.freezeCell (l:=([]:O Int)++v0.ended) (row:=rI) 3 2 rfl rfl rfl (.E 3 rfl (.R func46 results46 rfl ?_)))))
       cases H
       exact .m rfl (.av _)
    ·intro ly
     refine .E 5 rfl (.ite H rfl (λH=>?_) (λH=>?_))
     ·exact .E 1 rfl (.z (ly (v1.kind==14) H) rfl rfl)
     ·exact .E 4 rfl (.z (ly (v1.kind==15) H) rfl rfl)
theorem Ah {aD:O Event} {r:Int×Int} (H:mK aD=some r):aB prog 28 [ag 7 Event.row aD] (·=.dp [cI r.1,cI r.2]):=by
 obtain ⟨i115,DV,DW,O2,O3⟩:=F1
 refine aB.aS func28 rfl ntmps28 rfl λS hS=>?_
 unfold mK at H
 refine .A 12 [.i (aD.length:Int)] rfl (Nb.n rfl rfl) (.ite H rfl (λH=>?_) (λH=>?_))
 ·refine .E 5 rfl (.R func28 results28 rfl ?_)
  cases H
  exact .m rfl (.cZ rfl)
 ·refine .A 17 [.d (.agg (ah.row (⟨([]:O aw),([]:O Sub),([]:O Int)⟩:ah))),.r 0] rfl (az.g (az.le (aK F5 DV DW rfl rfl) (dB.d (.agg ⟨.nil 6,.nil 8,.nil 1,trivial⟩)))) (.lp H (λ⟨sv,bk,iA,fE,fF⟩=>[(0,.d (ag 7 Event.row aD)),(4,.ref 0 0),(5,.d (cI sv)),(6,.d (cI bk))]) (λ⟨sv,bk,iA,fE,fF⟩=>⟨[.row 115 [.d (ag 6 aw.eQ iA),.d (ag 8 Sub.row fE),.d (ag 1 rI fF)]],[]⟩) (.k4 rfl rfl rfl rfl (.nil)) rfl ?_)
  rintro ⟨sv,bk,iA,fE,fF⟩ q1 H bt
  dsimp only at H
  unfold iz at H
  refine .A 8 [.i (aD.length:Int)] rfl (Nb.n rfl rfl) (.ite H rfl (λH=>?_) (λH=>?_))
  ·obtain ⟨cA,H⟩:=ab H
   obtain ⟨y1,dI,H⟩:=af H
   refine .A 21 [.p 8,.d (.ro (Event.row (nth aD bk.toNat))),.i y1] rfl ⟨ax (en 17 rfl) rfl rfl (Ag dI),Nb.ix rfl rfl rfl cA,(show _=true by kernel_rfl)⟩ (.ite H rfl (λH=>?_) (λH=>?_))
   ·refine .E 7 rfl (.R func28 results28 rfl ?_)
    cases H
    cases bt
    exact .m rfl (.cZ rfl)
   ·obtain ⟨cP,H⟩:=ab H
    obtain ⟨y2,gN,H⟩:=af H
    obtain ⟨dD,H⟩:=ab H
    obtain ⟨dY,H⟩:=ab H
    refine .A 26 [.p 6,.d (.ro (Event.row (nth aD bk.toNat))),.d (.agg (ah.row y2)),.d (.ro (Event.row (nth aD bk.toNat))),.i (bk+1)] rfl ⟨ay rfl rfl dY,Nb.ix rfl rfl rfl dD,ax (en 18 rfl) rfl rfl (tG gN),Nb.ix rfl rfl rfl cP,(show _=true by kernel_rfl)⟩ ?_
    cases H
    exact .z bt rfl rfl
  ·refine .E 6 rfl (.R func28 results28 rfl ?_)
   cases H
   cases bt
   exact .m rfl (.cZ rfl)
theorem Cc {aD:O Event} {ed:O (O uA)} {r:Bool} (H:oz aD ed=some r):aB prog 9 [ag 7 Event.row aD,ag 1 (Kf 1 cq) ed] (·=cB r):=by
 obtain ⟨i84,S9,Vs,Ta,Vt⟩:=KJ
 refine aB.aS func9 rfl ntmps9 rfl λS hS=>?_
 unfold oz at H
 refine .A 16 [.i (aD.length:Int),.i (ed.length:Int)] rfl ⟨rfl,rfl,λhg=>Ub.n rfl rfl,rfl,Nb.n rfl rfl⟩ (.ite H rfl (λH=>?_) (λH=>?_))
 ·refine .E 4 rfl (.R func9 results9 rfl ?_)
  cases H
  exact .m rfl (.av _)
 ·refine .E 6 rfl (.bw (ι:=Unit) (λ_=>[(0,.d (ag 7 Event.row aD))]) (λ_=>⟨[],[]⟩) (λs=>gU aD=some r) ?_ ?_)
  ·rintro _ H
   replace H:gU aD=some r:=H
   unfold gU at H
   obtain ⟨y1,dI,H⟩:=af H
   refine .A 16 [.d (.dp [cI y1.1,cI y1.2])] rfl (ax (en 19 rfl) rfl rfl (Ah dI)) (.R func9 results9 rfl ?_)
   cases H
   exact .m rfl (.av _)
  ·intro ly eF
   refine .lp H (λak=>[(0,.d (ag 7 Event.row aD)),(1,.d (ag 1 (Kf 1 cq) ed)),(5,.d (cI ak))]) (λak=>⟨[],[]⟩) (.k3 rfl rfl rfl (.nil)) rfl ?_
   rintro ak q1 H bt
   unfold ml at H
   refine .A 8 [.i (ed.length:Int)] rfl (Ub.n rfl rfl) (.ite H rfl (λH=>?_) (λH=>?_))
   ·obtain ⟨cA,H⟩:=ab H
    refine .A 12 [.d (.ro ((Kf 1 cq) (nth ed ak.toNat))),.i ((nth ed ak.toNat).length:Int)] rfl ⟨ju.n rfl rfl,Ub.ix rfl rfl rfl cA⟩ (.ite H rfl (λH=>?_) (λH=>?_))
    ·refine .E 4 rfl (.R func9 results9 rfl ?_)
     cases H
     cases bt
     exact .m rfl (.av _)
    ·obtain ⟨cP,H⟩:=ab H
     refine .A 7 [.i (ak+1)] rfl (ay rfl rfl cP) ?_
     cases H
     exact .z bt rfl rfl
   ·refine .E 1 rfl ?_
    obtain ⟨q0,H9,lz⟩:=bK H;clear H;cases lz
    cases bt
    have H:=H9
    exact .z (eF () H) rfl rfl
theorem jY {aM:O Int} {jj:Int} {r:(O Int)} (H:gV aM jj=some r):aB prog 34 [ag 1 rI aM,cI jj] (·=ag 1 rI r):=by
 obtain ⟨i3,ji,rL,mc,Fp⟩:=u3
 refine aB.aS func34 rfl ntmps34 rfl λS hS=>?_
 unfold gV at H
 refine .A 12 [.i (aM.length:Int)] rfl (jq.n rfl rfl) (.bw (ι:=Int) (λbS=>[(0,.d (ag 1 rI aM)),(1,.d (cI jj)),(5,.d (cI bS))]) (λbS=>⟨[],[]⟩) (λs=>je aM jj s=some r) ?_ ?_)
 ·rintro bS H
  replace H:je aM jj bS=some r:=H
  unfold je at H
  obtain ⟨cA,H⟩:=ab H
  refine .A 16 [.i (aM.length:Int),.d (.ro (rI (nth aM bS.toNat)))] rfl ⟨rfl,rfl,rfl,rfl,λhg=>jq.ix rfl rfl rfl (cA hg),rfl,rfl,jq.n rfl rfl⟩ (.ite H rfl (λH=>?_) (λH=>?_))
  ·refine .E 5 rfl (.R func34 results34 rfl ?_)
   cases H
   exact .m rfl (.av _)
  ·obtain ⟨cP,H⟩:=ab H
   obtain ⟨dD,H⟩:=ab H
   obtain ⟨dY,H⟩:=ab H
   obtain ⟨fh,H⟩:=ab H
   obtain ⟨gM,H⟩:=ab H
   refine let z0:=((aM.take bS.toNat)++([jj]:O Int));.A 26 [.d (ag 1 rI (aM.take bS.toNat)),.n (.bX 1 ((aM.take bS.toNat).map rI) 0) (u5 (aM.take bS.toNat).length),.d (ag 1 rI ([jj]:O Int)),.a 0 3 1 rI z0,.d (ag 1 rI (aM.drop bS.toNat)),.a 0 3 1 rI (z0++(aM.drop bS.toNat))] rfl ⟨jq.a rfl rfl rfl rfl gM,az.g (ye (l:=aM) (row:=rI) underlying100 ji mc rfl rfl rfl fh),jq.a rfl rfl rfl rfl dY,aC underlying100 ji mc rL rfl rfl rfl rfl rfl,.e (BH (l':=aM.take bS.toNat) (row:=rI) underlying100 ji rL mc rfl (by rw[Fp];decide) rfl rfl rfl dD) rfl,az.g (FN (l:=aM) (row:=rI) underlying100 ji mc rfl rfl rfl cP)⟩ ?_
   refine .R func34 results34 rfl ?_
   cases H
   exact .m rfl (.bX _ _ _)
 ·intro ly eF
  refine .lp H (λ⟨cE,fa⟩=>[(0,.d (ag 1 rI aM)),(1,.d (cI jj)),(5,.d (cI cE)),(6,.d (cI fa))]) (λ⟨cE,fa⟩=>⟨[],[]⟩) (.k4 rfl rfl rfl rfl (.nil)) rfl ?_
  rintro ⟨cE,fa⟩ q1 H bt
  dsimp only at H
  unfold p5 at H
  refine .E 7 rfl (.ite H rfl (λH=>?_) (λH=>?_))
  ·obtain ⟨jX,H⟩:=ab H
   obtain ⟨mb,H⟩:=ab H
   obtain ⟨pM,H⟩:=ab H
   refine .A 19 [.i (cE+fa),.i (Int.tdiv (cE+fa) 2),.d (.ro (rI (nth aM (Int.tdiv (cE+fa) 2).toNat)))] rfl ⟨jq.ix rfl rfl rfl pM,az.g (tV rfl rfl mb),ay rfl rfl jX⟩ (.ite H rfl (λH=>?_) (λH=>?_))
   ·obtain ⟨gO,H⟩:=ab H
    refine .A 6 [.i ((Int.tdiv (cE+fa) 2)+1)] rfl (ay rfl rfl gO) ?_
    cases H
    exact .z bt rfl rfl
   ·refine .E 5 rfl ?_
    cases H
    exact .z bt rfl rfl
  ·refine .E 1 rfl ?_
   obtain ⟨q0,H9,lz⟩:=bK H;clear H;cases lz
   cases bt
   have H:=H9
   exact .z (eF cE H) rfl rfl
theorem vk {v0:O aG} {v1:O fg} {r:(O aT)} (H:nh v0 v1=some r):aB prog 19 [ag 12 aG.row v0,ag 24 fg.row v1] (·=ag 4 aT.row r):=by
 obtain ⟨i3,ji,rL,mc,Fp⟩:=u3
 obtain ⟨i52,qp,rR,Cd,KW⟩:=AS
 obtain ⟨i60,rv,rT,w7,Nh⟩:=AT
 refine aB.aS func19 rfl ntmps19 rfl λS hS=>?_
 unfold nh at H
 refine .A 29 [.v (.mp 0) ⟨[mo0 ([]:O (Int×Int))],[]⟩,.v (.mp 1) ⟨[mo0 ([]:O (Int×Int)),mo0 ([]:O (Int×Int))],[]⟩,.v (.mp 2) ⟨[mo0 ([]:O (Int×Int)),mo0 ([]:O (Int×Int)),mo1 ([]:O (Int×aG))],[]⟩,.v (.mp 3) ⟨[mo0 ([]:O (Int×Int)),mo0 ([]:O (Int×Int)),mo1 ([]:O (Int×aG)),mo1 ([]:O (Int×aG))],[]⟩,.i (v0.length:Int)] rfl ⟨QC.n rfl rfl,.e nP rfl,.e nP rfl,.e nP rfl,.e nP rfl⟩ (.bw (ι:=O Int×(O (Int×Int))×(O (Int×aG))) (λ⟨u7,bV,bW⟩=>[(1,.d (ag 24 fg.row v1)),(5,.d (ag 1 rI u7)),(6,.mp 0),(7,.mp 1),(8,.mp 2),(9,.mp 3)]) (λ⟨u7,bV,bW⟩=>⟨[mo0 bV,mo0 ([]:O (Int×Int)),mo1 bW,mo1 ([]:O (Int×aG))],[]⟩) (λs=>gq v1 s.1 s.2.1 s.2.2=some r) ?_ ?_)
 ·rintro ⟨u7,bV,bW⟩ H
  replace H:gq v1 u7 bV bW=some r:=H
  unfold gq at H
  refine .A 7 [.i (v1.length:Int)] rfl (Uc.n rfl rfl) (.bw (ι:=O Int×(O (Int×Int))×(O (Int×aG))) (λ⟨bB,dR,fG⟩=>[(5,.d (ag 1 rI bB)),(6,.mp 0),(7,.mp 1),(8,.mp 2),(9,.mp 3)]) (λ⟨bB,dR,fG⟩=>⟨[mo0 bV,mo0 dR,mo1 bW,mo1 fG],[]⟩) (λs=>gn bV bW s.1 s.2.1 s.2.2=some r) ?_ ?_)
  ·rintro ⟨bB,dR,fG⟩ H
   replace H:gn bV bW bB dR fG=some r:=H
   unfold gn at H
   refine .A 12 [.i (bB.length:Int)] rfl (jq.n rfl rfl) (.tok (i:=15) (e:=60) (sz:=4) rfl (.lp H (λ⟨p6,bG⟩=>[(6,.mp 0),(7,.mp 1),(8,.mp 2),(9,.mp 3),(15,.bX 4 (p6.map aT.row) 0),(74,.d (ag 1 rI bB)),(75,.d (cI (bB.length:Int))),(76,.d (cI bG))]) (λ⟨p6,bG⟩=>⟨[mo0 bV,mo0 dR,mo1 bW,mo1 fG],[sn p6.length]⟩) (.k8 rfl rfl rfl rfl rfl rfl rfl rfl (.nil)) rfl ?_))
   rintro ⟨p6,bG⟩ q1 H bt
   dsimp only at H
   unfold oA at H
   refine .E 5 rfl (.ite H rfl (λH=>?_) (λH=>?_))
   ·obtain ⟨cA,H⟩:=ab H
    refine .A 21 [.d (.ro (rI (nth bB bG.toNat))),.i ((aO bV (nth bB bG.toNat)).getD 0),.i ((aO dR (nth bB bG.toNat)).getD 0)] rfl ⟨az.g (c8 (g6 underlying3) (l:=dR) (val:=(λx=>cI x)) (k:=nth bB bG.toNat) (a0:=0) underlying101 ji rL (show rE (cI 0) (cI 0) from .av _) rfl rfl rfl (λ_ _ _ h=>g7 h)),az.g (c8 (g6 underlying3) (l:=bV) (val:=(λx=>cI x)) (k:=nth bB bG.toNat) (a0:=0) underlying101 ji rL (show rE (cI 0) (cI 0) from .av _) rfl rfl rfl (λ_ _ _ h=>g7 h)),jq.ix rfl rfl rfl cA⟩ (.ite H rfl (λH=>?_) (λH=>?_))
    ·obtain ⟨cP,H⟩:=ab H
     obtain ⟨dD,H⟩:=ab H
     refine .A 20 [.i ((aO bV (nth bB bG.toNat)).getD 0),.i ((aO dR (nth bB bG.toNat)).getD 0),.d (.agg (aT.row (⟨2,nth bB bG.toNat,(aO bV (nth bB bG.toNat)).getD 0,(aO dR (nth bB bG.toNat)).getD 0⟩:aT))),.d (ag 4 aT.row ([(⟨2,nth bB bG.toNat,(aO bV (nth bB bG.toNat)).getD 0,(aO dR (nth bB bG.toNat)).getD 0⟩:aT)]:O aT)),.a 0 60 4 aT.row (p6++([(⟨2,nth bB bG.toNat,(aO bV (nth bB bG.toNat)).getD 0,(aO dR (nth bB bG.toNat)).getD 0⟩:aT)]:O aT)),.i (bG+1)] rfl ⟨ay rfl rfl dD,Fo.a rfl rfl rfl rfl cP,aC underlying42 rv w7 rT rfl rfl rfl rfl rfl,az.g (aK yt rv rT rfl rfl),az.g (c8 (g6 underlying3) (l:=dR) (val:=(λx=>cI x)) (k:=nth bB bG.toNat) (a0:=0) underlying101 ji rL (show rE (cI 0) (cI 0) from .av _) rfl rfl rfl (λ_ _ _ h=>g7 h)),az.g (c8 (g6 underlying3) (l:=bV) (val:=(λx=>cI x)) (k:=nth bB bG.toNat) (a0:=0) underlying101 ji rL (show rE (cI 0) (cI 0) from .av _) rfl rfl rfl (λ_ _ _ h=>g7 h))⟩ ?_
     cases H
     exact .z bt rfl rfl
    ·refine .A 11 [.d (.agg (aG.row ((aO bW (nth bB bG.toNat)).getD kq3))),.d (.agg (aG.row ((aO fG (nth bB bG.toNat)).getD kq3))),.b (!(jy (aG.j6 ((aO bW (nth bB bG.toNat)).getD kq3)) (aG.j6 ((aO fG (nth bB bG.toNat)).getD kq3))))] rfl ⟨az.g (G3 S5 rfl rfl (xs:=aG.j6 ((aO bW (nth bB bG.toNat)).getD kq3)) (ys:=aG.j6 ((aO fG (nth bB bG.toNat)).getD kq3)) rfl rfl rfl rfl),az.g (c8 (g6 underlying3) (l:=fG) (val:=(λx=>.agg (aG.row x))) (k:=nth bB bG.toNat) (a0:=kq3) underlying102 qp rR (show rE (.agg (aG.row kq3)) (.agg (aG.row kq3)) from .av _) rfl rfl rfl (λ_ _ _ h=>g7 h)),az.g (c8 (g6 underlying3) (l:=bW) (val:=(λx=>.agg (aG.row x))) (k:=nth bB bG.toNat) (a0:=kq3) underlying102 qp rR (show rE (.agg (aG.row kq3)) (.agg (aG.row kq3)) from .av _) rfl rfl rfl (λ_ _ _ h=>g7 h))⟩ (.ite H rfl (λH=>?_) (λH=>?_))
     ·obtain ⟨dY,H⟩:=ab H
      obtain ⟨fh,H⟩:=ab H
      refine .A 22 [.d (.agg (aG.row ((aO bW (nth bB bG.toNat)).getD kq3))),.i ((aO bW (nth bB bG.toNat)).getD kq3).aJ,.d (.agg (aG.row ((aO fG (nth bB bG.toNat)).getD kq3))),.i ((aO fG (nth bB bG.toNat)).getD kq3).aJ,.d (.agg (aT.row (⟨3,nth bB bG.toNat,((aO bW (nth bB bG.toNat)).getD kq3).aJ,((aO fG (nth bB bG.toNat)).getD kq3).aJ⟩:aT))),.d (ag 4 aT.row ([(⟨3,nth bB bG.toNat,((aO bW (nth bB bG.toNat)).getD kq3).aJ,((aO fG (nth bB bG.toNat)).getD kq3).aJ⟩:aT)]:O aT)),.a 0 60 4 aT.row (p6++([(⟨3,nth bB bG.toNat,((aO bW (nth bB bG.toNat)).getD kq3).aJ,((aO fG (nth bB bG.toNat)).getD kq3).aJ⟩:aT)]:O aT)),.i (bG+1)] rfl ⟨ay rfl rfl fh,Fo.a rfl rfl rfl rfl dY,aC underlying42 rv w7 rT rfl rfl rfl rfl rfl,az.g (aK yt rv rT rfl rfl),az.g (GQ underlying52 rfl g9 rfl rfl rfl),az.g (c8 (g6 underlying3) (l:=fG) (val:=(λx=>.agg (aG.row x))) (k:=nth bB bG.toNat) (a0:=kq3) underlying102 qp rR (show rE (.agg (aG.row kq3)) (.agg (aG.row kq3)) from .av _) rfl rfl rfl (λ_ _ _ h=>g7 h)),az.g (GQ underlying52 rfl g9 rfl rfl rfl),az.g (c8 (g6 underlying3) (l:=bW) (val:=(λx=>.agg (aG.row x))) (k:=nth bB bG.toNat) (a0:=kq3) underlying102 qp rR (show rE (.agg (aG.row kq3)) (.agg (aG.row kq3)) from .av _) rfl rfl rfl (λ_ _ _ h=>g7 h))⟩ ?_
      cases H
      exact .z bt rfl rfl
     ·obtain ⟨gM,H⟩:=ab H
      refine .A 7 [.i (bG+1)] rfl (ay rfl rfl gM) ?_
      cases H
      exact .z bt rfl rfl
   ·refine .E 6 rfl (.R func19 results19 rfl ?_)
    cases H
    cases bt
    exact .m rfl (.bX _ _ _)
  ·intro ru Gd
   refine .lp H (λ⟨F7,aL,dS,nf⟩=>[(5,.d (ag 1 rI F7)),(6,.mp 0),(7,.mp 1),(8,.mp 2),(9,.mp 3),(47,.d (ag 24 fg.row v1)),(48,.d (cI (v1.length:Int))),(49,.d (cI aL))]) (λ⟨F7,aL,dS,nf⟩=>⟨[mo0 bV,mo0 dS,mo1 bW,mo1 nf],[]⟩) (.k8 rfl rfl rfl rfl rfl rfl rfl rfl (.nil)) rfl ?_
   rintro ⟨F7,aL,dS,nf⟩ q1 H bt
   dsimp only at H
   unfold oB at H
   refine .E 5 rfl (.ite H rfl (λH=>?_) (λH=>?_))
   ·obtain ⟨jX,H⟩:=ab H
    obtain ⟨y1,dI,H⟩:=af H
    refine .A 25 [.d (.ro (fg.row (nth v1 aL.toNat))),.r 4,.r 5,.d (ag 1 rI y1)] rfl ⟨ax (en 20 rfl) rfl rfl (jY dI),Uc.ix rfl rfl rfl jX⟩ (.di (ι:=(O (Int×aG))) (λug=>[(5,.d (ag 1 rI y1)),(6,.mp 0),(7,.mp 1),(8,.mp 2),(9,.mp 3),(14,.ref 5 0),(47,.d (ag 24 fg.row v1)),(48,.d (cI (v1.length:Int))),(49,.d (cI aL))]) (λug=>⟨[mo0 bV,mo0 dS,mo1 bW,mo1 ug,.row 58 [.d (cI ((nth v1 aL.toNat).aQ).id),.d (cI ((nth v1 aL.toNat).aQ).kind),.d (cI ((nth v1 aL.toNat).aQ).aH),.d (cI ((nth v1 aL.toNat).aQ).sub),.d (cS ((nth v1 aL.toNat).aQ).a),.d (cS ((nth v1 aL.toNat).aQ).b),.d (cI ((nth v1 aL.toNat).aQ).start),.d (cI ((nth v1 aL.toNat).aQ).aJ),.d (cI ((nth v1 aL.toNat).aQ).bh),.d (cB ((nth v1 aL.toNat).aQ).aP),.d (cI ((nth v1 aL.toNat).aQ).source),.d (cI ((nth v1 aL.toNat).aQ).aF),.d (cI (nth v1 aL.toNat).err),.d (cS (nth v1 aL.toNat).qY),.d (cI (nth v1 aL.toNat).version),.d (cS (nth v1 aL.toNat).KR),.d (ag 5 wZ.row (nth v1 aL.toNat).DQ),.d (ag 4 jP.row (nth v1 aL.toNat).segments),.d (cI (nth v1 aL.toNat).DR),.d (cI (nth v1 aL.toNat).DS),.d (cI (nth v1 aL.toNat).S8),.d (ag 2 rF.row (nth v1 aL.toNat).given),.d (cI (nth v1 aL.toNat).KS),.d (cI (nth v1 aL.toNat).Aa)],.row 52 [.d (cI ((nth v1 aL.toNat).aQ).id),.d (cI ((nth v1 aL.toNat).aQ).kind),.d (cI ((nth v1 aL.toNat).aQ).aH),.d (cI ((nth v1 aL.toNat).aQ).sub),.d (cS ((nth v1 aL.toNat).aQ).a),.d (cS ((nth v1 aL.toNat).aQ).b),.d (cI ((nth v1 aL.toNat).aQ).start),.d (cI ((nth v1 aL.toNat).aQ).aJ),.d (cI ((nth v1 aL.toNat).aQ).bh),.d (cB ((nth v1 aL.toNat).aQ).aP),.d (cI ((nth v1 aL.toNat).aQ).source),.d (cI ((nth v1 aL.toNat).aQ).aF)]],[]⟩) (λs=>eS v1 aL dS y1 s=some q1) ?_ ?_)
    ·rintro ug H
     replace H:eS v1 aL dS y1 ug=some q1:=H
     unfold eS at H
     obtain ⟨mb,H⟩:=ab H
     obtain ⟨pM,H⟩:=ab H
     refine .A 13 [.i ((aO dS ((nth v1 aL.toNat).aQ).id).getD 0),.i (((aO dS ((nth v1 aL.toNat).aQ).id).getD 0)+1),.u ⟨[mo0 bV,mo0 (fe dS ((nth v1 aL.toNat).aQ).id (((aO dS ((nth v1 aL.toNat).aQ).id).getD 0)+1)),mo1 bW,mo1 ug,.row 58 [.d (cI ((nth v1 aL.toNat).aQ).id),.d (cI ((nth v1 aL.toNat).aQ).kind),.d (cI ((nth v1 aL.toNat).aQ).aH),.d (cI ((nth v1 aL.toNat).aQ).sub),.d (cS ((nth v1 aL.toNat).aQ).a),.d (cS ((nth v1 aL.toNat).aQ).b),.d (cI ((nth v1 aL.toNat).aQ).start),.d (cI ((nth v1 aL.toNat).aQ).aJ),.d (cI ((nth v1 aL.toNat).aQ).bh),.d (cB ((nth v1 aL.toNat).aQ).aP),.d (cI ((nth v1 aL.toNat).aQ).source),.d (cI ((nth v1 aL.toNat).aQ).aF),.d (cI (nth v1 aL.toNat).err),.d (cS (nth v1 aL.toNat).qY),.d (cI (nth v1 aL.toNat).version),.d (cS (nth v1 aL.toNat).KR),.d (ag 5 wZ.row (nth v1 aL.toNat).DQ),.d (ag 4 jP.row (nth v1 aL.toNat).segments),.d (cI (nth v1 aL.toNat).DR),.d (cI (nth v1 aL.toNat).DS),.d (cI (nth v1 aL.toNat).S8),.d (ag 2 rF.row (nth v1 aL.toNat).given),.d (cI (nth v1 aL.toNat).KS),.d (cI (nth v1 aL.toNat).Aa)],.row 52 [.d (cI ((nth v1 aL.toNat).aQ).id),.d (cI ((nth v1 aL.toNat).aQ).kind),.d (cI ((nth v1 aL.toNat).aQ).aH),.d (cI ((nth v1 aL.toNat).aQ).sub),.d (cS ((nth v1 aL.toNat).aQ).a),.d (cS ((nth v1 aL.toNat).aQ).b),.d (cI ((nth v1 aL.toNat).aQ).start),.d (cI ((nth v1 aL.toNat).aQ).aJ),.d (cI ((nth v1 aL.toNat).aQ).bh),.d (cB ((nth v1 aL.toNat).aQ).aP),.d (cI ((nth v1 aL.toNat).aQ).source),.d (cI ((nth v1 aL.toNat).aQ).aF)]],[]⟩,.i (aL+1)] rfl ⟨ay rfl rfl pM,.e (iZ (g6 underlying3) (l:=dS) (val:=(λx=>cI x)) (k:=((nth v1 aL.toNat).aQ).id) (a:=((aO dS ((nth v1 aL.toNat).aQ).id).getD 0)+1) underlying101 rfl rfl rfl (λ_ _ _ h=>g7 h) rfl (.av _)) rfl,ay rfl rfl mb,az.g (c8 (g6 underlying3) (l:=dS) (val:=(λx=>cI x)) (k:=((nth v1 aL.toNat).aQ).id) (a0:=0) underlying101 ji rL (show rE (cI 0) (cI 0) from .av _) rfl rfl rfl (λ_ _ _ h=>g7 h))⟩ ?_
     cases H
     exact .t 4 0 bt rfl rfl rfl rfl (yi rfl (gY lB (gY lB (gY lB (gY lB rfl))))) hS rfl
    ·intro Hq
     refine .A 8 [.i ((aO dS ((nth v1 aL.toNat).aQ).id).getD 0)] rfl (az.g (c8 (g6 underlying3) (l:=dS) (val:=(λx=>cI x)) (k:=((nth v1 aL.toNat).aQ).id) (a0:=0) underlying101 ji rL (show rE (cI 0) (cI 0) from .av _) rfl rfl rfl (λ_ _ _ h=>g7 h))) (.ite H rfl (λH=>?_) (λH=>?_))
     ·exact .A 7 [.u ⟨[mo0 bV,mo0 dS,mo1 bW,mo1 (fe nf ((nth v1 aL.toNat).aQ).id (nth v1 aL.toNat).aQ),.row 58 [.d (cI ((nth v1 aL.toNat).aQ).id),.d (cI ((nth v1 aL.toNat).aQ).kind),.d (cI ((nth v1 aL.toNat).aQ).aH),.d (cI ((nth v1 aL.toNat).aQ).sub),.d (cS ((nth v1 aL.toNat).aQ).a),.d (cS ((nth v1 aL.toNat).aQ).b),.d (cI ((nth v1 aL.toNat).aQ).start),.d (cI ((nth v1 aL.toNat).aQ).aJ),.d (cI ((nth v1 aL.toNat).aQ).bh),.d (cB ((nth v1 aL.toNat).aQ).aP),.d (cI ((nth v1 aL.toNat).aQ).source),.d (cI ((nth v1 aL.toNat).aQ).aF),.d (cI (nth v1 aL.toNat).err),.d (cS (nth v1 aL.toNat).qY),.d (cI (nth v1 aL.toNat).version),.d (cS (nth v1 aL.toNat).KR),.d (ag 5 wZ.row (nth v1 aL.toNat).DQ),.d (ag 4 jP.row (nth v1 aL.toNat).segments),.d (cI (nth v1 aL.toNat).DR),.d (cI (nth v1 aL.toNat).DS),.d (cI (nth v1 aL.toNat).S8),.d (ag 2 rF.row (nth v1 aL.toNat).given),.d (cI (nth v1 aL.toNat).KS),.d (cI (nth v1 aL.toNat).Aa)],.row 52 [.d (cI ((nth v1 aL.toNat).aQ).id),.d (cI ((nth v1 aL.toNat).aQ).kind),.d (cI ((nth v1 aL.toNat).aQ).aH),.d (cI ((nth v1 aL.toNat).aQ).sub),.d (cS ((nth v1 aL.toNat).aQ).a),.d (cS ((nth v1 aL.toNat).aQ).b),.d (cI ((nth v1 aL.toNat).aQ).start),.d (cI ((nth v1 aL.toNat).aQ).aJ),.d (cI ((nth v1 aL.toNat).aQ).bh),.d (cB ((nth v1 aL.toNat).aQ).aP),.d (cI ((nth v1 aL.toNat).aQ).source),.d (cI ((nth v1 aL.toNat).aQ).aF)]],[]⟩] rfl (.e (iZ (g6 underlying3) (l:=nf) (val:=(λx=>.agg (aG.row x))) (k:=((nth v1 aL.toNat).aQ).id) (a:=(nth v1 aL.toNat).aQ) underlying102 rfl rfl rfl (λ_ _ _ h=>g7 h) rfl (.av _)) rfl) (.z (Hq (fe nf ((nth v1 aL.toNat).aQ).id (nth v1 aL.toNat).aQ) H) rfl rfl)
     ·exact .E 1 rfl (.z (Hq nf H) rfl rfl)
   ·refine .E 1 rfl ?_
    obtain ⟨q0,H9,lz⟩:=bK H;clear H;cases lz
    cases bt
    have H:=H9
    exact .z (Gd (F7,dS,nf) H) rfl rfl
 ·intro ly eF
  refine .lp H (λ⟨F8,bD,dT,ng⟩=>[(1,.d (ag 24 fg.row v1)),(5,.d (ag 1 rI F8)),(6,.mp 0),(7,.mp 1),(8,.mp 2),(9,.mp 3),(22,.d (ag 12 aG.row v0)),(23,.d (cI (v0.length:Int))),(24,.d (cI bD))]) (λ⟨F8,bD,dT,ng⟩=>⟨[mo0 dT,mo0 ([]:O (Int×Int)),mo1 ng,mo1 ([]:O (Int×aG))],[]⟩) (.cons rfl (.av _) (.cons rfl (.nil 1) (.k7 rfl rfl rfl rfl rfl rfl rfl (.nil)))) rfl ?_
  rintro ⟨F8,bD,dT,ng⟩ q1 H bt
  dsimp only at H
  unfold oC at H
  refine .E 5 rfl (.ite H rfl (λH=>?_) (λH=>?_))
  ·obtain ⟨gO,H⟩:=ab H
   obtain ⟨y2,gN,H⟩:=af H
   refine .A 18 [.d (.ro (aG.row (nth v0 bD.toNat))),.r 4,.d (ag 1 rI y2)] rfl ⟨ax (en 20 rfl) rfl rfl (jY gN),QC.ix rfl rfl rfl gO⟩ (.di (ι:=(O (Int×aG))) (λuh=>[(1,.d (ag 24 fg.row v1)),(5,.d (ag 1 rI y2)),(6,.mp 0),(7,.mp 1),(8,.mp 2),(9,.mp 3),(11,.ref 4 0),(22,.d (ag 12 aG.row v0)),(23,.d (cI (v0.length:Int))),(24,.d (cI bD))]) (λuh=>⟨[mo0 dT,mo0 ([]:O (Int×Int)),mo1 uh,mo1 ([]:O (Int×aG)),.row 52 [.d (cI (nth v0 bD.toNat).id),.d (cI (nth v0 bD.toNat).kind),.d (cI (nth v0 bD.toNat).aH),.d (cI (nth v0 bD.toNat).sub),.d (cS (nth v0 bD.toNat).a),.d (cS (nth v0 bD.toNat).b),.d (cI (nth v0 bD.toNat).start),.d (cI (nth v0 bD.toNat).aJ),.d (cI (nth v0 bD.toNat).bh),.d (cB (nth v0 bD.toNat).aP),.d (cI (nth v0 bD.toNat).source),.d (cI (nth v0 bD.toNat).aF)]],[]⟩) (λs=>eT v0 bD dT y2 s=some q1) ?_ ?_)
   ·rintro uh H
    replace H:eT v0 bD dT y2 uh=some q1:=H
    unfold eT at H
    obtain ⟨m4,H⟩:=ab H
    obtain ⟨nk,H⟩:=ab H
    refine .A 13 [.i ((aO dT (nth v0 bD.toNat).id).getD 0),.i (((aO dT (nth v0 bD.toNat).id).getD 0)+1),.u ⟨[mo0 (fe dT (nth v0 bD.toNat).id (((aO dT (nth v0 bD.toNat).id).getD 0)+1)),mo0 ([]:O (Int×Int)),mo1 uh,mo1 ([]:O (Int×aG)),.row 52 [.d (cI (nth v0 bD.toNat).id),.d (cI (nth v0 bD.toNat).kind),.d (cI (nth v0 bD.toNat).aH),.d (cI (nth v0 bD.toNat).sub),.d (cS (nth v0 bD.toNat).a),.d (cS (nth v0 bD.toNat).b),.d (cI (nth v0 bD.toNat).start),.d (cI (nth v0 bD.toNat).aJ),.d (cI (nth v0 bD.toNat).bh),.d (cB (nth v0 bD.toNat).aP),.d (cI (nth v0 bD.toNat).source),.d (cI (nth v0 bD.toNat).aF)]],[]⟩,.i (bD+1)] rfl ⟨ay rfl rfl nk,.e (iZ (g6 underlying3) (l:=dT) (val:=(λx=>cI x)) (k:=(nth v0 bD.toNat).id) (a:=((aO dT (nth v0 bD.toNat).id).getD 0)+1) underlying101 rfl rfl rfl (λ_ _ _ h=>g7 h) rfl (.av _)) rfl,ay rfl rfl m4,az.g (c8 (g6 underlying3) (l:=dT) (val:=(λx=>cI x)) (k:=(nth v0 bD.toNat).id) (a0:=0) underlying101 ji rL (show rE (cI 0) (cI 0) from .av _) rfl rfl rfl (λ_ _ _ h=>g7 h))⟩ ?_
    cases H
    exact .t 4 0 bt rfl rfl rfl rfl (yi rfl (gY lB (gY lB (gY lB (gY lB rfl))))) hS rfl
   ·intro O4
    refine .A 8 [.i ((aO dT (nth v0 bD.toNat).id).getD 0)] rfl (az.g (c8 (g6 underlying3) (l:=dT) (val:=(λx=>cI x)) (k:=(nth v0 bD.toNat).id) (a0:=0) underlying101 ji rL (show rE (cI 0) (cI 0) from .av _) rfl rfl rfl (λ_ _ _ h=>g7 h))) (.ite H rfl (λH=>?_) (λH=>?_))
    ·exact .A 7 [.u ⟨[mo0 dT,mo0 ([]:O (Int×Int)),mo1 (fe ng (nth v0 bD.toNat).id (nth v0 bD.toNat)),mo1 ([]:O (Int×aG)),.row 52 [.d (cI (nth v0 bD.toNat).id),.d (cI (nth v0 bD.toNat).kind),.d (cI (nth v0 bD.toNat).aH),.d (cI (nth v0 bD.toNat).sub),.d (cS (nth v0 bD.toNat).a),.d (cS (nth v0 bD.toNat).b),.d (cI (nth v0 bD.toNat).start),.d (cI (nth v0 bD.toNat).aJ),.d (cI (nth v0 bD.toNat).bh),.d (cB (nth v0 bD.toNat).aP),.d (cI (nth v0 bD.toNat).source),.d (cI (nth v0 bD.toNat).aF)]],[]⟩] rfl (.e (iZ (g6 underlying3) (l:=ng) (val:=(λx=>.agg (aG.row x))) (k:=(nth v0 bD.toNat).id) (a:=nth v0 bD.toNat) underlying102 rfl rfl rfl (λ_ _ _ h=>g7 h) rfl (.av _)) rfl) (.z (O4 (fe ng (nth v0 bD.toNat).id (nth v0 bD.toNat)) H) rfl rfl)
    ·exact .E 1 rfl (.z (O4 ng H) rfl rfl)
  ·refine .E 1 rfl ?_
   obtain ⟨q0,H9,lz⟩:=bK H;clear H;cases lz
   cases bt
   have H:=H9
   exact .z (eF (F8,dT,ng) H) rfl rfl
theorem sI {cz:Int} {dJ:O Int} {mL mM:O (Int×Int)} {r:(O aT)} (H:j7 cz dJ mL mM=some r):eg prog 36 [.d (cI cz),.d (ag 1 rI dJ),.mp 0,.mp 1] ⟨[mo0 mL,mo0 mM],[]⟩ (QE (.d (ag 4 aT.row r)) ⟨[mo0 mL,mo0 mM],[]⟩):=by
 obtain ⟨i3,ji,rL,mc,Fp⟩:=u3
 obtain ⟨i60,rv,rT,w7,Nh⟩:=AT
 refine eg.PZ ?_
 refine eg.enter func36 rfl ntmps36 rfl λS hS=>?_
 unfold j7 at H
 refine .A 16 [.i (dJ.length:Int)] rfl (jq.n rfl rfl) (.tok (i:=9) (e:=60) (sz:=4) rfl (.lp H (λ⟨mm,bj⟩=>[(0,.d (cI cz)),(2,.mp 0),(3,.mp 1),(9,.bX 4 (mm.map aT.row) 0),(12,.d (ag 1 rI dJ)),(13,.d (cI (dJ.length:Int))),(14,.d (cI bj))]) (λ⟨mm,bj⟩=>⟨[mo0 mL,mo0 mM],[sn mm.length]⟩) (.k7 rfl rfl rfl rfl rfl rfl rfl (.nil)) rfl ?_))
 rintro ⟨mm,bj⟩ q1 H bt
 dsimp only at H
 unfold lD at H
 refine .E 5 rfl (.ite H rfl (λH=>?_) (λH=>?_))
 ·obtain ⟨cA,H⟩:=ab H
  refine .A 19 [.d (.ro (rI (nth dJ bj.toNat))),.i ((aO mL (nth dJ bj.toNat)).getD 0),.i ((aO mM (nth dJ bj.toNat)).getD 0)] rfl ⟨az.g (c8 (g6 underlying3) (l:=mM) (val:=(λx=>cI x)) (k:=nth dJ bj.toNat) (a0:=0) underlying101 ji rL (show rE (cI 0) (cI 0) from .av _) rfl rfl rfl (λ_ _ _ h=>g7 h)),az.g (c8 (g6 underlying3) (l:=mL) (val:=(λx=>cI x)) (k:=nth dJ bj.toNat) (a0:=0) underlying101 ji rL (show rE (cI 0) (cI 0) from .av _) rfl rfl rfl (λ_ _ _ h=>g7 h)),jq.ix rfl rfl rfl cA⟩ (.ite H rfl (λH=>?_) (λH=>?_))
  ·obtain ⟨cP,H⟩:=ab H
   obtain ⟨dD,H⟩:=ab H
   refine .A 20 [.i ((aO mL (nth dJ bj.toNat)).getD 0),.i ((aO mM (nth dJ bj.toNat)).getD 0),.d (.agg (aT.row (⟨cz,nth dJ bj.toNat,(aO mL (nth dJ bj.toNat)).getD 0,(aO mM (nth dJ bj.toNat)).getD 0⟩:aT))),.d (ag 4 aT.row ([(⟨cz,nth dJ bj.toNat,(aO mL (nth dJ bj.toNat)).getD 0,(aO mM (nth dJ bj.toNat)).getD 0⟩:aT)]:O aT)),.a 0 60 4 aT.row (mm++([(⟨cz,nth dJ bj.toNat,(aO mL (nth dJ bj.toNat)).getD 0,(aO mM (nth dJ bj.toNat)).getD 0⟩:aT)]:O aT)),.i (bj+1)] rfl ⟨ay rfl rfl dD,Fo.a rfl rfl rfl rfl cP,aC underlying42 rv w7 rT rfl rfl rfl rfl rfl,az.g (aK yt rv rT rfl rfl),az.g (c8 (g6 underlying3) (l:=mM) (val:=(λx=>cI x)) (k:=nth dJ bj.toNat) (a0:=0) underlying101 ji rL (show rE (cI 0) (cI 0) from .av _) rfl rfl rfl (λ_ _ _ h=>g7 h)),az.g (c8 (g6 underlying3) (l:=mL) (val:=(λx=>cI x)) (k:=nth dJ bj.toNat) (a0:=0) underlying101 ji rL (show rE (cI 0) (cI 0) from .av _) rfl rfl rfl (λ_ _ _ h=>g7 h))⟩ ?_
   cases H
   exact .z bt rfl rfl
  ·obtain ⟨dY,H⟩:=ab H
   refine .A 6 [.i (bj+1)] rfl (ay rfl rfl dY) ?_
   cases H
   exact .z bt rfl rfl
 ·refine .E 6 rfl (.R func36 results36 rfl ?_)
  cases H
  cases bt
  refine ⟨[0,1],[],rfl,(gY lB (gY lB rfl)),?_,?_,?_,?_,?_,?_,.bX _ _ _⟩<;>first|rfl|(simp only[List.map_cons,List.map_nil,FR,FU,kr];rfl)
theorem tm {bq:O fg} {bC:O pX} {r:(O aT)} (H:kz bq bC=some r):aB prog 21 [ag 24 fg.row bq,ag 8 pX.row bC] (·=ag 4 aT.row r):=by
 obtain ⟨i3,ji,rL,mc,Fp⟩:=u3
 obtain ⟨i64,QH,QI,Tb,Vu⟩:=KI
 refine aB.aS func21 rfl ntmps21 rfl λS hS=>?_
 unfold kz at H
 refine .A 22 [.v (.mp 0) ⟨[mo0 ([]:O (Int×Int))],[]⟩,.v (.mp 1) ⟨[mo0 ([]:O (Int×Int)),mo0 ([]:O (Int×Int))],[]⟩,.i (bq.length:Int)] rfl ⟨Uc.n rfl rfl,.e nP rfl,.e nP rfl⟩ (.bw (ι:=O Int×(O (Int×Int))) (λ⟨tb,bV⟩=>[(1,.d (ag 8 pX.row bC)),(5,.d (ag 1 rI tb)),(6,.mp 0),(7,.mp 1)]) (λ⟨tb,bV⟩=>⟨[mo0 bV,mo0 ([]:O (Int×Int))],[]⟩) (λs=>fv bC s.1 s.2=some r) ?_ ?_)
 ·rintro ⟨tb,bV⟩ H
  replace H:fv bC tb bV=some r:=H
  unfold fv at H
  refine .A 7 [.i (bC.length:Int)] rfl (Wr.n rfl rfl) (.bw (ι:=O Int×(O (Int×Int))) (λ⟨ta,dR⟩=>[(5,.d (ag 1 rI ta)),(6,.mp 0),(7,.mp 1)]) (λ⟨ta,dR⟩=>⟨[mo0 bV,mo0 dR],[]⟩) (λs=>fu bV s.1 s.2=some r) ?_ ?_)
  ·rintro ⟨ta,dR⟩ H
   replace H:fu bV ta dR=some r:=H
   unfold fu at H
   obtain ⟨y1,dI,H⟩:=af H
   refine .F 5 rfl ?_
   refine .ON (en 21 rfl) rfl [0,1] [] (x:=.d (ag 4 aT.row y1)) (st':=⟨[mo0 bV,mo0 dR],[]⟩) rfl (sI dI) ⟨.av _,.av _,.av _,.av _,trivial⟩ rfl (gY lB (gY lB rfl)) (by first|rfl|(simp only[List.map_cons,List.map_nil,FR,FU,kr];rfl)) rfl rfl (by first|rfl|(simp only[List.map_cons,List.map_nil,FR,FU,kr];rfl)) ?_
   refine .E 2 rfl (.R func21 results21 rfl ?_)
   cases H
   exact .m rfl (.av _)
  ·intro ru Gd
   refine .lp H (λ⟨ph,dr,ch⟩=>[(5,.d (ag 1 rI ph)),(6,.mp 0),(7,.mp 1),(34,.d (ag 8 pX.row bC)),(35,.d (cI (bC.length:Int))),(36,.d (cI dr))]) (λ⟨ph,dr,ch⟩=>⟨[mo0 bV,mo0 ch],[]⟩) (.k6 rfl rfl rfl rfl rfl rfl (.nil)) rfl ?_
   rintro ⟨ph,dr,ch⟩ q1 H bt
   dsimp only at H
   unfold mN at H
   refine .E 5 rfl (.ite H rfl (λH=>?_) (λH=>?_))
   ·obtain ⟨cA,H⟩:=ab H
    refine .A 21 [.d (.ro (pX.row (nth bC dr.toNat))),.r 2] rfl ⟨rfl,rfl,rfl,Wr.ix rfl rfl rfl cA⟩ (.ite H rfl (λH=>?_) (λH=>?_))
    ·obtain ⟨y2,gN,H⟩:=af H
     obtain ⟨cP,H⟩:=ab H
     obtain ⟨dD,H⟩:=ab H
     refine .A 23 [.d (ag 1 rI y2),.i ((aO ch (nth bC dr.toNat).sub).getD 0),.i (((aO ch (nth bC dr.toNat).sub).getD 0)+((nth bC dr.toNat).ov)),.u ⟨[mo0 bV,mo0 (fe ch (nth bC dr.toNat).sub (((aO ch (nth bC dr.toNat).sub).getD 0)+((nth bC dr.toNat).ov))),.row 64 [.d (cI (nth bC dr.toNat).kind),.d (cI (nth bC dr.toNat).sub),.d (cS (nth bC dr.toNat).name),.d (cS (nth bC dr.toNat).category),.d (cI (nth bC dr.toNat).count),.d (cI (nth bC dr.toNat).aJ),.d (cI (nth bC dr.toNat).ov),.d (cI (nth bC dr.toNat).Ho)]],[]⟩,.i (dr+1)] rfl ⟨ay rfl rfl dD,.e (iZ (g6 underlying3) (l:=ch) (val:=(λx=>cI x)) (k:=(nth bC dr.toNat).sub) (a:=((aO ch (nth bC dr.toNat).sub).getD 0)+((nth bC dr.toNat).ov)) underlying101 rfl rfl rfl (λ_ _ _ h=>g7 h) rfl (.av _)) rfl,ay rfl rfl cP,az.g (c8 (g6 underlying3) (l:=ch) (val:=(λx=>cI x)) (k:=(nth bC dr.toNat).sub) (a0:=0) underlying101 ji rL (show rE (cI 0) (cI 0) from .av _) rfl rfl rfl (λ_ _ _ h=>g7 h)),ax (en 20 rfl) rfl rfl (jY gN)⟩ ?_
     cases H
     exact .t 2 0 bt rfl rfl rfl rfl (yi rfl (gY lB (gY lB rfl))) hS rfl
    ·obtain ⟨dY,H⟩:=ab H
     refine .A 6 [.i (dr+1)] rfl (ay rfl rfl dY) ?_
     cases H
     exact .t 2 0 bt rfl rfl rfl rfl (yi rfl (gY lB (gY lB rfl))) hS rfl
   ·refine .E 1 rfl ?_
    obtain ⟨q0,H9,lz⟩:=bK H;clear H;cases lz
    cases bt
    have H:=H9
    exact .z (Gd (ph,ch) H) rfl rfl
 ·intro ly eF
  refine .lp H (λ⟨rb,cw,jr⟩=>[(1,.d (ag 8 pX.row bC)),(5,.d (ag 1 rI rb)),(6,.mp 0),(7,.mp 1),(14,.d (ag 24 fg.row bq)),(15,.d (cI (bq.length:Int))),(16,.d (cI cw))]) (λ⟨rb,cw,jr⟩=>⟨[mo0 jr,mo0 ([]:O (Int×Int))],[]⟩) (.cons rfl (.av _) (.cons rfl (.nil 1) (.k5 rfl rfl rfl rfl rfl (.nil)))) rfl ?_
  rintro ⟨rb,cw,jr⟩ q1 H bt
  dsimp only at H
  unfold mO at H
  refine .E 5 rfl (.ite H rfl (λH=>?_) (λH=>?_))
  ·obtain ⟨fh,H⟩:=ab H
   obtain ⟨y3,mA,H⟩:=af H
   obtain ⟨gM,H⟩:=ab H
   obtain ⟨jX,H⟩:=ab H
   refine .A 35 [.d (.ro (fg.row (nth bq cw.toNat))),.r 2,.d (ag 1 rI y3),.i ((aO jr ((nth bq cw.toNat).aQ).sub).getD 0),.i (((aO jr ((nth bq cw.toNat).aQ).sub).getD 0)+((nth bq cw.toNat).Aa)),.u ⟨[mo0 (fe jr ((nth bq cw.toNat).aQ).sub (((aO jr ((nth bq cw.toNat).aQ).sub).getD 0)+((nth bq cw.toNat).Aa))),mo0 ([]:O (Int×Int)),.row 58 [.d (cI ((nth bq cw.toNat).aQ).id),.d (cI ((nth bq cw.toNat).aQ).kind),.d (cI ((nth bq cw.toNat).aQ).aH),.d (cI ((nth bq cw.toNat).aQ).sub),.d (cS ((nth bq cw.toNat).aQ).a),.d (cS ((nth bq cw.toNat).aQ).b),.d (cI ((nth bq cw.toNat).aQ).start),.d (cI ((nth bq cw.toNat).aQ).aJ),.d (cI ((nth bq cw.toNat).aQ).bh),.d (cB ((nth bq cw.toNat).aQ).aP),.d (cI ((nth bq cw.toNat).aQ).source),.d (cI ((nth bq cw.toNat).aQ).aF),.d (cI (nth bq cw.toNat).err),.d (cS (nth bq cw.toNat).qY),.d (cI (nth bq cw.toNat).version),.d (cS (nth bq cw.toNat).KR),.d (ag 5 wZ.row (nth bq cw.toNat).DQ),.d (ag 4 jP.row (nth bq cw.toNat).segments),.d (cI (nth bq cw.toNat).DR),.d (cI (nth bq cw.toNat).DS),.d (cI (nth bq cw.toNat).S8),.d (ag 2 rF.row (nth bq cw.toNat).given),.d (cI (nth bq cw.toNat).KS),.d (cI (nth bq cw.toNat).Aa)]],[]⟩,.i (cw+1)] rfl ⟨ay rfl rfl jX,.e (iZ (g6 underlying3) (l:=jr) (val:=(λx=>cI x)) (k:=((nth bq cw.toNat).aQ).sub) (a:=((aO jr ((nth bq cw.toNat).aQ).sub).getD 0)+((nth bq cw.toNat).Aa)) underlying101 rfl rfl rfl (λ_ _ _ h=>g7 h) rfl (.av _)) rfl,ay rfl rfl gM,az.g (c8 (g6 underlying3) (l:=jr) (val:=(λx=>cI x)) (k:=((nth bq cw.toNat).aQ).sub) (a0:=0) underlying101 ji rL (show rE (cI 0) (cI 0) from .av _) rfl rfl rfl (λ_ _ _ h=>g7 h)),ax (en 20 rfl) rfl rfl (jY mA),Uc.ix rfl rfl rfl fh⟩ ?_
   cases H
   exact .t 2 0 bt rfl rfl rfl rfl (yi rfl (gY lB (gY lB rfl))) hS rfl
  ·refine .E 1 rfl ?_
   obtain ⟨q0,H9,lz⟩:=bK H;clear H;cases lz
   cases bt
   have H:=H9
   exact .z (eF (rb,jr) H) rfl rfl
theorem vl {re pj:O aT} {r:Bool} (H:lS re pj=some r):aB prog 13 [ag 4 aT.row re,ag 4 aT.row pj] (·=cB r):=by
 refine aB.aS func13 rfl ntmps13 rfl λS hS=>?_
 unfold lS at H
 refine .A 13 [.i (re.length:Int),.i (pj.length:Int)] rfl ⟨Fo.n rfl rfl,Fo.n rfl rfl⟩ (.ite H rfl (λH=>?_) (λH=>?_))
 ·refine .E 4 rfl (.R func13 results13 rfl ?_)
  cases H
  exact .m rfl (.av _)
 ·refine .E 7 rfl (.lp H (λak=>[(0,.d (ag 4 aT.row re)),(1,.d (ag 4 aT.row pj)),(5,.d (cI ak))]) (λak=>⟨[],[]⟩) (.k3 rfl rfl rfl (.nil)) rfl ?_)
  rintro ak q1 H bt
  unfold mn at H
  refine .A 8 [.i (re.length:Int)] rfl (Fo.n rfl rfl) (.ite H rfl (λH=>?_) (λH=>?_))
  ·obtain ⟨cA,H⟩:=ab H
   obtain ⟨cP,H⟩:=ab H
   refine .A 16 [.p 9,.d (.ro (aT.row (nth re ak.toNat))),.d (.ro (aT.row (nth pj ak.toNat))),.b (!(jy (aT.j6 (nth re ak.toNat)) (aT.j6 (nth pj ak.toNat))))] rfl ⟨az.g (G3 S6 rfl rfl (xs:=aT.j6 (nth re ak.toNat)) (ys:=aT.j6 (nth pj ak.toNat)) rfl rfl rfl rfl),Fo.ix rfl rfl rfl cP,Fo.ix rfl rfl rfl cA,(show _=true by kernel_rfl)⟩ (.ite H rfl (λH=>?_) (λH=>?_))
   ·refine .E 4 rfl (.R func13 results13 rfl ?_)
    cases H
    cases bt
    exact .m rfl (.av _)
   ·obtain ⟨dD,H⟩:=ab H
    refine .A 7 [.i (ak+1)] rfl (ay rfl rfl dD) ?_
    cases H
    exact .z bt rfl rfl
  ·refine .E 5 rfl (.R func13 results13 rfl ?_)
   cases H
   cases bt
   exact .m rfl (.av _)
theorem w8 {cz:Int} {r:(O uA)} (H:pF cz=some r):aB prog 38 [cI cz] (·=cS r):=by
 refine aB.aS func38 rfl ntmps38 rfl λS hS=>?_
 unfold pF at H
 refine .E 15 rfl (.ite H rfl (λH=>?_) (λH=>?_))
 ·refine .E 4 rfl (.R func38 results38 rfl ?_)
  cases H
  exact .m rfl (.av _)
 ·refine .E 5 rfl (.ite H rfl (λH=>?_) (λH=>?_))
  ·refine .E 4 rfl (.R func38 results38 rfl ?_)
   cases H
   exact .m rfl (.av _)
  ·refine .E 5 rfl (.ite H rfl (λH=>?_) (λH=>?_))
   ·refine .E 4 rfl (.R func38 results38 rfl ?_)
    cases H
    exact .m rfl (.av _)
   ·refine .E 5 rfl (.ite H rfl (λH=>?_) (λH=>?_))
    ·refine .E 4 rfl (.R func38 results38 rfl ?_)
     cases H
     exact .m rfl (.av _)
    ·refine .E 5 rfl (.ite H rfl (λH=>?_) (λH=>?_))
     ·refine .E 4 rfl (.R func38 results38 rfl ?_)
      cases H
      exact .m rfl (.av _)
     ·refine .E 5 rfl (.ite H rfl (λH=>?_) (λH=>?_))
      ·refine .E 4 rfl (.R func38 results38 rfl ?_)
       cases H
       exact .m rfl (.av _)
      ·refine .E 6 rfl (.R func38 results38 rfl ?_)
       cases H
       exact .m rfl (.av _)
theorem ur {m8:Int} {r:(O uA)} (H:lT m8=some r):aB prog 39 [cI m8] (·=cS r):=by
 obtain ⟨i5,nR,xr,nS,DY⟩:=u4
 refine aB.aS func39 rfl ntmps39 rfl λS hS=>?_
 unfold lT at H
 refine .A 10 [.d (cK .u64 (IntKind.wrap .u64 m8))] rfl (az.g (nV underlying3 underlying127 rfl rfl)) (.di (ι:=Int) (λA2=>[(0,.d (cI m8)),(3,.d (cK .u64 A2))]) (λA2=>⟨[],[]⟩) (λs=>ey m8 s=some r) ?_ ?_)
 ·rintro A2 H
  replace H:ey m8 A2=some r:=H
  unfold ey at H
  refine .A 9 [.v (.ref 0 0) ⟨[.row 128 ((List.replicate 20 0:O uA).map λb=>EV.d (uW b))],[]⟩] rfl (.e (o8 Qv rfl) rfl) (.bw (ι:=Int×O uA) (λ⟨gE,dn⟩=>[(0,.d (cI m8)),(4,.ref 0 0),(5,.d (cI gE))]) (λ⟨gE,dn⟩=>⟨[.row 128 (dn.map λb=>EV.d (uW b))],[]⟩) (λs=>fL m8 s.1 s.2=some r) ?_ ?_)
  ·rintro ⟨gE,dn⟩ H
   replace H:fL m8 gE dn=some r:=H
   unfold fL at H
   refine .E 6 rfl (.ite H rfl (λH=>?_) (λH=>?_))
   ·obtain ⟨cA,H⟩:=ab H
    obtain ⟨cP,H⟩:=ab H
    obtain ⟨dD,H⟩:=ab H
    refine .A 8 [.g (.wW 0 (0+gE.toNat*1) (20-gE.toNat) (20-gE.toNat)),.s (dn.drop gE.toNat),.s (([45]:O uA)++(dn.drop gE.toNat))] rfl ⟨az.g (dM rfl rfl dD),az.g (Dv (l:=dn) (m:=gE.toNat) (n:=20) underlying84 underlying5 underlying9 rfl rfl cP),az.g (Kd (m:=gE.toNat) underlying128 ⟨_,nR,nS⟩ rfl rfl (by have h:=cA;omega) (by have h:=cA;omega))⟩ ?_
    refine .R func39 results39 rfl ?_
    cases H
    exact .m rfl (.av _)
   ·obtain ⟨dY,H⟩:=ab H
    obtain ⟨fh,H⟩:=ab H
    refine .A 8 [.g (.wW 0 (0+gE.toNat*1) (20-gE.toNat) (20-gE.toNat)),.s (dn.drop gE.toNat)] rfl ⟨az.g (Dv (l:=dn) (m:=gE.toNat) (n:=20) underlying84 underlying5 underlying9 rfl rfl fh),az.g (Kd (m:=gE.toNat) underlying128 ⟨_,nR,nS⟩ rfl rfl (by have h:=dY;omega) (by have h:=dY;omega))⟩ ?_
    refine .R func39 results39 rfl ?_
    cases H
    exact .m rfl (.av _)
  ·intro ru Gd
   refine .lp H (λ⟨tE,ak,iA⟩=>[(0,.d (cI m8)),(3,.d (cK .u64 tE)),(4,.ref 0 0),(5,.d (cI ak))]) (λ⟨tE,ak,iA⟩=>⟨[.row 128 (iA.map λb=>EV.d (uW b))],[]⟩) (.k4 rfl rfl rfl rfl (.nil)) rfl ?_
   rintro ⟨tE,ak,iA⟩ q1 H bt
   dsimp only at H
   unfold nq at H
   refine .A 10 [] rfl ⟨rfl,rfl⟩ (.ite H rfl (λH=>?_) (λH=>?_))
   ·obtain ⟨gM,H⟩:=ab H
    obtain ⟨jX,H⟩:=ab H
    obtain ⟨mb,H⟩:=ab H
    obtain ⟨pM,H⟩:=ab H
    obtain ⟨gO,H⟩:=ab H
    refine let z0:=(IntKind.wrap .u64 (48+(Int.tmod tE 10)));.A 24 [.i (ak-1),.d (cK .u64 (Int.tmod tE 10)),.d (cK .u64 z0),.c (UInt8.ofInt z0),.g (.ref 0 (ak-1).toNat),.w 8 ⟨[.row 128 ((iA.set (ak-1).toNat (UInt8.ofInt z0)).map λb=>EV.d (uW b))],[]⟩,.d (cK .u64 (IntKind.wrap .u64 (Int.tdiv tE 10)))] rfl ⟨az.g (CT rfl rfl gO rfl),.e (FQ (l:=iA) (c1:=uW) (a:=UInt8.ofInt z0) rfl rfl rfl rfl pM Vo) rfl,az.g (Ix (i:=ak-1) underlying128 ⟨_,nR,nS⟩ rfl rfl mb),az.g (xm underlying127 underlying5 rfl),az.g (xL rfl rfl rfl),az.g (CU rfl rfl jX rfl),gZ rfl rfl gM⟩ ?_
    cases H
    exact .z bt rfl rfl
   ·refine .E 1 rfl ?_
    obtain ⟨q0,H9,lz⟩:=bK H;clear H;cases lz
    cases bt
    have H:=H9
    exact .z (Gd (ak,iA) H) rfl rfl
 ·intro ly
  refine .E 5 rfl (.ite H rfl (λH=>?_) (λH=>?_))
  ·exact .A 5 [.d (cK .u64 (IntKind.wrap .u64 (0-(IntKind.wrap .u64 m8))))] rfl (az.g (OG rfl rfl)) (.z (ly (IntKind.wrap .u64 (0-(IntKind.wrap .u64 m8))) H) rfl rfl)
  ·exact .E 1 rfl (.z (ly (IntKind.wrap .u64 m8) H) rfl rfl)
theorem rM {aM:O aT} {r:(O uA)} (H:mo aM=some r):aB prog 23 [ag 4 aT.row aM] (·=cS r):=by
 obtain ⟨i3,ji,rL,mc,Fp⟩:=u3
 obtain ⟨i5,nR,xr,nS,DY⟩:=u4
 obtain ⟨i107,Tc,Td,Wx,Wy⟩:=Qh
 refine aB.aS func23 rfl ntmps23 rfl λS hS=>?_
 unfold mo at H
 refine .A 16 [.i (aM.length:Int)] rfl (Fo.n rfl rfl) (.tok (i:=3) (e:=5) (sz:=1) rfl (.lp H (λ⟨qa,cm⟩=>[(3,.bX 1 (qa.map cq) 0),(8,.d (ag 4 aT.row aM)),(9,.d (cI (aM.length:Int))),(10,.d (cI cm))]) (λ⟨qa,cm⟩=>⟨[],[AW qa.length]⟩) (.k4 rfl rfl rfl rfl (.nil)) rfl ?_))
 rintro ⟨qa,cm⟩ q1 H bt
 dsimp only at H
 unfold p9 at H
 refine .E 5 rfl (.ite H rfl (λH=>?_) (λH=>?_))
 ·obtain ⟨cA,H⟩:=ab H
  obtain ⟨y1,dI,H⟩:=af H
  obtain ⟨cP,H⟩:=ab H
  refine .A 31 [.d (.ro (aT.row (nth aM cm.toNat))),.r 0,.s y1,.t (.bX 1 ((qa++y1).map cq) 0) 0 (AW (qa++y1).length),.d (.agg [cI (nth aM cm.toNat).key,cI (nth aM cm.toNat).left,cI (nth aM cm.toNat).right])] rfl ⟨az.g (gl underlying107 Tc Td ji mc rfl rfl),.e (uX (l:=qa) (a:=y1) underlying84 underlying9 nR xr nS rfl (by rw[DY];decide) rfl rfl rfl cP) rfl,ax (en 22 rfl) rfl rfl (w8 dI),Fo.ix rfl rfl rfl cA⟩ ?_
  refine .bw (ι:=O uA) (λu9=>[(3,.bX 1 (u9.map cq) 0),(8,.d (ag 4 aT.row aM)),(9,.d (cI (aM.length:Int))),(10,.d (cI cm))]) (λu9=>⟨[.row 60 [.d (cI (nth aM cm.toNat).OV),.d (cI (nth aM cm.toNat).key),.d (cI (nth aM cm.toNat).left),.d (cI (nth aM cm.toNat).right)]],[AW u9.length]⟩) (λs=>jf cm s=some q1) ?_ ?_
  ·rintro u9 H
   replace H:jf cm u9=some q1:=H
   unfold jf at H
   obtain ⟨dD,H⟩:=ab H
   obtain ⟨dY,H⟩:=ab H
   refine .A 11 [.d (ag 1 cq ([10]:O uA)),.a 0 5 1 cq (u9++([10]:O uA)),.i (cm+1)] rfl ⟨ay rfl rfl dY,ju.a rfl rfl rfl rfl dD,aC underlying84 nR nS xr rfl rfl rfl rfl rfl⟩ ?_
   cases H
   exact .t 0 1 bt rfl rfl rfl rfl rfl hS rfl
  ·intro ly eF
   refine .lp H (λ⟨rG,p8⟩=>[(3,.bX 1 (rG.map cq) 0),(8,.d (ag 4 aT.row aM)),(9,.d (cI (aM.length:Int))),(10,.d (cI cm)),(25,.d (.agg [cI (nth aM cm.toNat).key,cI (nth aM cm.toNat).left,cI (nth aM cm.toNat).right])),(26,.d (cI p8))]) (λ⟨rG,p8⟩=>⟨[.row 60 [.d (cI (nth aM cm.toNat).OV),.d (cI (nth aM cm.toNat).key),.d (cI (nth aM cm.toNat).left),.d (cI (nth aM cm.toNat).right)]],[AW rG.length]⟩) (.k6 rfl rfl rfl rfl rfl rfl (.nil)) rfl ?_
   rintro ⟨rG,p8⟩ q2 H Ni
   dsimp only at H
   unfold p7 at H
   refine .E 5 rfl (.ite H rfl (λH=>?_) (λH=>?_))
   ·obtain ⟨fh,H⟩:=ab H
    obtain ⟨gM,H⟩:=ab H
    obtain ⟨y2,gN,H⟩:=af H
    obtain ⟨jX,H⟩:=ab H
    obtain ⟨mb,H⟩:=ab H
    refine let z0:=(rG++([32]:O uA));.A 27 [.i (nth ([(nth aM cm.toNat).key,(nth aM cm.toNat).left,(nth aM cm.toNat).right]:O Int) p8.toNat),.d (ag 1 cq ([32]:O uA)),.a 0 5 1 cq z0,.s y2,.t (.bX 1 ((z0++y2).map cq) 0) 0 (AW (z0++y2).length),.i (p8+1)] rfl ⟨ay rfl rfl mb,.e (uX (l:=rG++([32]:O uA)) (a:=y2) underlying84 underlying9 nR xr nS rfl (by rw[DY];decide) rfl rfl rfl jX) rfl,ax (en 23 rfl) rfl rfl (ur gN),ju.a rfl rfl rfl rfl gM,aC underlying84 nR nS xr rfl rfl rfl rfl rfl,az.g (KA (n:=3) (l:=([(nth aM cm.toNat).key,(nth aM cm.toNat).left,(nth aM cm.toNat).right]:O Int)) (c1:=cI) (i:=p8) underlying107 g9 ji mc rfl rfl rfl fh)⟩ ?_
    cases H
    exact .z Ni rfl rfl
   ·refine .E 1 rfl ?_
    obtain ⟨q0,H9,lz⟩:=bK H;clear H;cases lz
    cases Ni
    have H:=H9
    exact .z (eF rG H) rfl rfl
 ·refine .A 7 [.s qa] rfl (az.g (iu (a:=qa) underlying84 underlying5 underlying9 rfl rfl)) (.R func23 results23 rfl ?_)
  cases H
  cases bt
  exact .m rfl (.av _)
theorem w9 {bd:O Range} {r:Int} (H:jD bd=some r):aB prog 49 [ag 3 Range.row bd] (·=cI r):=by
 refine aB.aS func49 rfl ntmps49 rfl λS hS=>?_
 unfold jD at H
 refine .A 16 [.i (bd.length:Int)] rfl (Hn.n rfl rfl) (.lp H (λ⟨bU,bu⟩=>[(3,.d (cI bU)),(6,.d (ag 3 Range.row bd)),(7,.d (cI (bd.length:Int))),(8,.d (cI bu))]) (λ⟨bU,bu⟩=>⟨[],[]⟩) (.k4 rfl rfl rfl rfl (.nil)) rfl ?_)
 rintro ⟨bU,bu⟩ q1 H bt
 dsimp only at H
 unfold fR at H
 refine .E 5 rfl (.ite H rfl (λH=>?_) (λH=>?_))
 ·obtain ⟨cA,H⟩:=ab H
  obtain ⟨cP,H⟩:=ab H
  obtain ⟨dD,H⟩:=ab H
  obtain ⟨dY,H⟩:=ab H
  obtain ⟨fh,H⟩:=ab H
  refine .A 26 [.d (.ro (Range.row (nth bd bu.toNat))),.r 0,.i ((nth bd bu.toNat).qZ - (nth bd bu.toNat).from_),.i (((nth bd bu.toNat).qZ - (nth bd bu.toNat).from_)+1),.i (bU+(((nth bd bu.toNat).qZ - (nth bd bu.toNat).from_)+1)),.i (bu+1)] rfl ⟨ay rfl rfl fh,ay rfl rfl dY,ay rfl rfl dD,gZ rfl rfl cP,Hn.ix rfl rfl rfl cA⟩ ?_
  cases H
  exact .t 0 0 bt rfl rfl rfl rfl rfl hS rfl
 ·refine .E 6 rfl (.R func49 results49 rfl ?_)
  cases H
  cases bt
  exact .m rfl (.av _)
theorem rU {b8:ao} {r:cx} (H:ez b8=some r):aB prog 31 [.agg (ao.row b8)] (·=.agg (cx.row r)):=by
 obtain ⟨i39,QJ,QK,Vv,Vw⟩:=OX
 refine aB.aS func31 rfl ntmps31 rfl λS hS=>?_
 unfold ez at H
 refine .A 33 [.r 0,.r 1,.i (b8.usages.length:Int),.i (b8.bo.length:Int),.i (b8.aI.length:Int),.i (b8.ai.open_.length:Int),.d (.agg (cx.row (⟨0,(b8.usages.length:Int),0,(b8.bo.length:Int),(b8.aI.length:Int),(b8.ai.open_.length:Int)⟩:cx))),.r 2,.i (b8.ai.aX.length:Int)] rfl ⟨Nc.n rfl rfl,az.g (aK OZ QJ QK rfl rfl),lC.n rfl rfl,lC.n rfl rfl,O0.n rfl rfl,QC.n rfl rfl⟩ (.bw (ι:=Int) (λbW=>[(1,.ref 0 0),(2,.ref 1 0),(3,.ref 2 0)]) (λbW=>⟨[.row 34 [.d (ag 3 Range.row b8.ai.seen),.d (ag 12 aa.row b8.ai.open_),.d (ag 4 Head.row b8.ai.aX),.d (ag 12 aG.row b8.usages),.d (ag 12 aa.row b8.aI),.d (ag 4 aj.row b8.bo)],.row 39 [.d (cI 0),.d (cI 0),.d (cI 0),.d (cI 0),.d (cI 0),.d (cI 0)],.row 39 [.d (cI bW),.d (cI (b8.usages.length:Int)),.d (cI 0),.d (cI (b8.bo.length:Int)),.d (cI (b8.aI.length:Int)),.d (cI (b8.ai.open_.length:Int))]],[]⟩) (λs=>dx b8 s=some r) ?_ ?_)
 ·rintro bW H
  replace H:dx b8 bW=some r:=H
  unfold dx at H
  obtain ⟨y1,dI,H⟩:=af H
  obtain ⟨cA,H⟩:=ab H
  obtain ⟨cP,H⟩:=ab H
  obtain ⟨dD,H⟩:=ab H
  refine let z0:=((y1-(b8.usages.length:Int)) - (b8.aI.length:Int));.A 24 [.p 14,.i y1,.i (y1-(b8.usages.length:Int)),.i z0,.i (z0 - (b8.ai.open_.length:Int))] rfl ⟨gZ rfl rfl dD,gZ rfl rfl cP,gZ rfl rfl cA,ax (en 24 rfl) rfl rfl (w9 dI),(show _=true by kernel_rfl)⟩ ?_
  refine .R func31 results31 rfl ?_
  cases H
  exact .m rfl (.av _)
 ·intro ly eF
  refine .lp H (λ⟨pn,bM⟩=>[(1,.ref 0 0),(2,.ref 1 0),(3,.ref 2 0),(22,.d (ag 4 Head.row b8.ai.aX)),(23,.d (cI (b8.ai.aX.length:Int))),(24,.d (cI pn))]) (λ⟨pn,bM⟩=>⟨[.row 34 [.d (ag 3 Range.row b8.ai.seen),.d (ag 12 aa.row b8.ai.open_),.d (ag 4 Head.row b8.ai.aX),.d (ag 12 aG.row b8.usages),.d (ag 12 aa.row b8.aI),.d (ag 4 aj.row b8.bo)],.row 39 [.d (cI 0),.d (cI 0),.d (cI 0),.d (cI 0),.d (cI 0),.d (cI 0)],.row 39 [.d (cI bM),.d (cI (b8.usages.length:Int)),.d (cI 0),.d (cI (b8.bo.length:Int)),.d (cI (b8.aI.length:Int)),.d (cI (b8.ai.open_.length:Int))]],[]⟩) (.k6 rfl rfl rfl rfl rfl rfl (.nil)) rfl ?_
  rintro ⟨pn,bM⟩ q1 H bt
  dsimp only at H
  unfold dy at H
  refine .E 5 rfl (.ite H rfl (λH=>?_) (λH=>?_))
  ·obtain ⟨dY,H⟩:=ab H
   obtain ⟨fh,H⟩:=ab H
   obtain ⟨gM,H⟩:=ab H
   refine .A 24 [.d (.ro (Head.row (nth b8.ai.aX pn.toNat))),.r 3,.i (bM+((nth b8.ai.aX pn.toNat).count)),.i (pn+1)] rfl ⟨ay rfl rfl gM,ay rfl rfl fh,Nc.ix rfl rfl rfl dY⟩ ?_
   cases H
   exact .t 3 0 bt rfl rfl rfl rfl rfl hS rfl
  ·refine .E 1 rfl ?_
   obtain ⟨q0,H9,lz⟩:=bK H;clear H;cases lz
   cases bt
   have H:=H9
   exact .z (eF bM H) rfl rfl
theorem nr {wM rf nz:Int} {wN:O aT} {r:(O aT)} (H:ef wM rf nz wN=some r):eg prog 32 [.d (cI wM),.d (cI rf),.d (cI nz),.ref 0 0] ⟨[.row 42 [.bX 4 (wN.map aT.row) 0]],[sn wN.length]⟩ (QE (.d (.dp [])) ⟨[.row 42 [.bX 4 (r.map aT.row) 0]],[sn r.length]⟩):=by
 obtain ⟨i60,rv,rT,w7,Nh⟩:=AT
 refine eg.PZ ?_
 refine eg.enter func32 rfl ntmps32 rfl λS hS=>?_
 unfold ef at H
 refine .E 6 rfl (.ite H rfl (λH=>?_) (λH=>?_))
 ·obtain ⟨cA,H⟩:=ab H
  refine .A 10 [.d (.agg (aT.row (⟨1,wM,rf,nz⟩:aT))),.d (ag 4 aT.row ([(⟨1,wM,rf,nz⟩:aT)]:O aT)),.a 0 60 4 aT.row (wN++([(⟨1,wM,rf,nz⟩:aT)]:O aT))] rfl ⟨Fo.a rfl rfl rfl rfl cA,aC underlying42 rv w7 rT rfl rfl rfl rfl rfl,az.g (aK yt rv rT rfl rfl)⟩ (.RP func32 results32 ?_)
  cases H
  exact ⟨[0],[0],rfl,rfl,rfl,rfl,rfl,rfl,rfl,rfl,dB.eP (ds:=[]) trivial⟩
 ·refine .E 1 rfl (.RP func32 results32 ?_)
  cases H
  exact ⟨[0],[0],rfl,rfl,rfl,rfl,rfl,rfl,rfl,rfl,dB.eP (ds:=[]) trivial⟩
theorem ib {b8:ao} {j8:Int} {r:(O aT)} (H:dC b8 j8=some r):aB prog 14 [.agg (ao.row b8),cI j8] (·=ag 4 aT.row r):=by
 refine aB.aS func14 rfl ntmps14 rfl λS hS=>?_
 unfold dC at H
 obtain ⟨y1,dI,H⟩:=af H
 refine .B 27 [.r 0,.d (.agg (cx.row y1)),.r 1,.r 2,.g (.xj 32 [.ref 2 0])] rfl ⟨az.g (FJ rfl),ax (en 25 rfl) rfl rfl (rU dI)⟩ (.qS (o:=2) (ci:=0) (e:=60) (sz:=4) rfl rfl ?_)
 obtain ⟨y2,gN,H⟩:=af H
 refine .Kk (en 26 rfl) rfl rfl [2] [0] (x:=.d (.dp [])) (st':=⟨[.row 34 [.d (ag 3 Range.row b8.ai.seen),.d (ag 12 aa.row b8.ai.open_),.d (ag 4 Head.row b8.ai.aX),.d (ag 12 aG.row b8.usages),.d (ag 12 aa.row b8.aI),.d (ag 4 aj.row b8.bo)],.row 39 [.d (cI y1.read),.d (cI y1.accepted),.d (cI y1.merged),.d (cI y1.rejected),.d (cI y1.aV),.d (cI y1.open_)],.row 42 [.bX 4 (y2.map aT.row) 0]],[sn y2.length]⟩) rfl (nr gN) ⟨.av _,.av _,.av _,.av _,trivial⟩ rfl rfl rfl rfl rfl rfl ?_
 obtain ⟨cA,H⟩:=ab H
 obtain ⟨cP,H⟩:=ab H
 obtain ⟨dD,H⟩:=ab H
 obtain ⟨dY,H⟩:=ab H
 obtain ⟨y3,mA,H⟩:=af H
 refine .B 20 [.i (y1.accepted+y1.merged),.i ((y1.accepted+y1.merged)+y1.rejected),.i (((y1.accepted+y1.merged)+y1.rejected)+y1.aV),.i ((((y1.accepted+y1.merged)+y1.rejected)+y1.aV)+y1.open_)] rfl ⟨ay rfl rfl dY,ay rfl rfl dD,ay rfl rfl cP,ay rfl rfl cA⟩ (.Kk (en 26 rfl) rfl rfl [2] [0] (x:=.d (.dp [])) (st':=⟨[.row 34 [.d (ag 3 Range.row b8.ai.seen),.d (ag 12 aa.row b8.ai.open_),.d (ag 4 Head.row b8.ai.aX),.d (ag 12 aG.row b8.usages),.d (ag 12 aa.row b8.aI),.d (ag 4 aj.row b8.bo)],.row 39 [.d (cI y1.read),.d (cI y1.accepted),.d (cI y1.merged),.d (cI y1.rejected),.d (cI y1.aV),.d (cI y1.open_)],.row 42 [.bX 4 (y3.map aT.row) 0]],[sn y3.length]⟩) rfl (nr mA) ⟨.av _,.av _,.av _,.av _,trivial⟩ rfl rfl rfl rfl rfl rfl (.E 6 rfl (.R func14 results14 rfl ?_)))
 cases H
 exact .m rfl (.bX _ _ _)
theorem tI {r:Bool} (H:mP=some r):aB prog 10 [] (·=cB r):=by
 obtain ⟨i34,DZ,D1,QL,QM⟩:=Hi
 obtain ⟨i52,qp,rR,Cd,KW⟩:=AS
 obtain ⟨i58,Te,Tf,Vx,Xx⟩:=OY
 obtain ⟨i60,rv,rT,w7,Nh⟩:=AT
 obtain ⟨i64,QH,QI,Tb,Vu⟩:=KI
 refine aB.aS func10 rfl ntmps10 rfl λS hS=>?_
 unfold mP at H
 obtain ⟨y1,dI,H⟩:=af H
 obtain ⟨y2,gN,H⟩:=af H
 obtain ⟨y3,mA,H⟩:=af H
 obtain ⟨y4,vf,H⟩:=af H
 obtain ⟨y5,Ad,H⟩:=af H
 obtain ⟨y6,Gc,H⟩:=af H
 obtain ⟨y7,Nj,H⟩:=af H
 refine .A 51 [.d (.agg (aG.row (⟨3,0,0,0,([]:O uA),([]:O uA),0,0,0,false,0,0⟩:aG))),.d (ag 12 aG.row ([(⟨3,0,0,0,([]:O uA),([]:O uA),0,0,0,false,0,0⟩:aG)]:O aG)),.d (ag 4 aT.row y1),.d (.agg (aG.row kq4)),.d (.agg (fg.row (⟨kq4,0,([]:O uA),0,([]:O uA),([]:O wZ),([]:O jP),0,0,0,([]:O rF),0,700⟩:fg))),.d (ag 24 fg.row ([(⟨kq4,0,([]:O uA),0,([]:O uA),([]:O wZ),([]:O jP),0,0,0,([]:O rF),0,700⟩:fg)]:O fg)),.d (.agg (pX.row (⟨3,2,([]:O uA),([]:O uA),0,0,500,0⟩:pX))),.d (ag 8 pX.row ([(⟨3,2,([]:O uA),([]:O uA),0,0,500,0⟩:pX)]:O pX)),.d (ag 4 aT.row y2),.d (.agg (aT.row (⟨2,3,1,0⟩:aT))),.d (ag 4 aT.row ([(⟨2,3,1,0⟩:aT)]:O aT)),.b y3,.s y4,.s y5,.d (.agg (ao.row kq6)),.d (ag 4 aT.row y6),.i (y6.length:Int),.d (.agg (ao.row kq6)),.d (ag 4 aT.row y7),.i (y7.length:Int)] rfl ⟨rfl,rfl,λhg=>Fo.n rfl rfl,rfl,λhg=>ax (en 27 rfl) rfl rfl (ib (b6 Nj hg)),rfl,λhg=>az.g (az.le (aK DN DZ D1 rfl rfl) (dB.d (.agg ⟨.nil 3,.nil 12,.nil 4,.nil 12,.nil 12,.nil 4,trivial⟩))),rfl,rfl,λhg=>Fo.n rfl rfl,rfl,λhg=>ax (en 27 rfl) rfl rfl (ib (b6 Gc hg)),rfl,λhg=>az.g (az.le (aK DN DZ D1 rfl rfl) (dB.d (.agg ⟨.nil 3,.nil 12,.nil 4,.nil 12,.nil 12,.nil 4,trivial⟩))),rfl,rfl,λhg=>ax (en 28 rfl) rfl rfl (rM (b6 Ad hg)),rfl,rfl,rfl,λhg=>ax (en 28 rfl) rfl rfl (rM (b6 vf hg)),rfl,ax (en 29 rfl) rfl rfl (vl mA),aC underlying42 rv w7 rT rfl rfl rfl rfl rfl,az.g (aK yt rv rT rfl rfl),ax (en 30 rfl) rfl rfl (tm gN),aC underlying62 QH Tb QI rfl rfl rfl rfl rfl,az.g (aK SV QH QI rfl rfl),aC underlying46 Te Vx Tf rfl rfl rfl rfl rfl,az.g (az.le (aK SU Te Tf rfl rfl) (dB.d (.agg ⟨.av _,.av _,.av _,.av _,.av _,.av _,.av _,.av _,.av _,.av _,.av _,.av _,.av _,.av _,.av _,.av _,.nil 5,.nil 4,.av _,.av _,.av _,.nil 2,.av _,.av _,trivial⟩))),az.g (aK yr qp rR rfl rfl),ax (en 31 rfl) rfl rfl ((vk dI).le ⟨.av _,.nil 24,trivial⟩),aC underlying31 qp Cd rR rfl rfl rfl rfl rfl,az.g (aK yr qp rR rfl rfl)⟩ (.R func10 results10 rfl ?_)
 cases H
 exact .m rfl (.av _)
theorem Ce {re pj:O uA} {r:(O uA)} (H:oD re pj=some r):aB prog 89 [ag 1 cq re,ag 1 cq pj] (·=ag 1 cq r):=by
 obtain ⟨i5,nR,xr,nS,DY⟩:=u4
 refine aB.aS func89 rfl ntmps89 rfl λS hS=>?_
 unfold oD at H
 obtain ⟨cA,H⟩:=ab H
 obtain ⟨cP,H⟩:=ab H
 refine .A 18 [.n (.bX 1 (([]:O uA).map cq) 0) (AW ([]:O uA).length),.a 0 5 1 cq (([]:O uA)++re),.a 0 5 1 cq ((([]:O uA)++re)++pj)] rfl ⟨ju.a rfl rfl rfl rfl cP,ju.a rfl rfl rfl rfl cA,.e (lL underlying84 nR nS) rfl⟩ (.R func89 results89 rfl ?_)
 cases H
 exact .m rfl (.bX _ _ _)
theorem sJ {v0:O uA} {r:Int×(O uA)×Int} (H:jg v0=some r):aB prog 78 [ag 1 cq v0] (·=.dp [cI r.1,ag 1 cq r.2.1,cI r.2.2]):=by
 obtain ⟨i5,nR,xr,nS,DY⟩:=u4
 refine aB.aS func78 rfl ntmps78 rfl λS hS=>?_
 unfold jg at H
 refine .E 17 rfl (.lp H (λ⟨da,bc,aW⟩=>[(0,.d (ag 1 cq v0)),(5,.d (cK .u64 da)),(6,.d (cK .u64 bc)),(7,.d (cI aW))]) (λ⟨da,bc,aW⟩=>⟨[],[]⟩) (.k4 rfl rfl rfl rfl (.nil)) rfl ?_)
 rintro ⟨da,bc,aW⟩ q1 H bt
 dsimp only at H
 unfold jQ at H
 refine .E 6 rfl (.ite H rfl (λH=>?_) (λH=>?_))
 ·refine .A 11 [.i (v0.length:Int)] rfl (ju.n rfl rfl) (.ite H rfl (λH=>?_) (λH=>?_))
  ·refine .E 6 rfl (.R func78 results78 rfl ?_)
   cases H
   cases bt
   exact .m rfl (.eP ⟨.av _,.nil 1,.av _,trivial⟩)
  ·obtain ⟨cA,H⟩:=ab H
   refine .B 25 [.d (.ro (cq (nth v0 aW.toNat))),.d (cK .u64 (IntKind.wrap .u64 ((nth v0 aW.toNat).toNat:Int)))] rfl ⟨rfl,rfl,rfl,rfl,rfl,az.g (nV (n:=((nth v0 aW.toNat).toNat:Int)) underlying5 underlying183 rfl rfl),ju.ix rfl rfl rfl cA⟩ (.eN (env':=[(32,_),(34,_)]) rfl rfl rfl ⟨.inr (.inl rfl),⟨.inr (.inr ⟨_,_,rfl,rfl⟩),trivial⟩⟩ rfl (λhg=>az.g (cC rfl rfl rfl)) (.A 2 [] rfl rfl (.ite H rfl (λH=>?_) (λH=>?_))))
   ·refine .E 6 rfl (.R func78 results78 rfl ?_)
    cases H
    cases bt
    exact .m rfl (.eP ⟨.av _,.nil 1,.av _,trivial⟩)
   ·obtain ⟨cP,H⟩:=ab H
    refine .A 23 [.d (cK .u64 (Int.tmod (IntKind.wrap .u64 ((nth v0 aW.toNat).toNat:Int)) 128)),.d (cK .u64 (IntKind.wrap .u64 ((Int.tmod (IntKind.wrap .u64 ((nth v0 aW.toNat).toNat:Int)) 128)*bc))),.d (cK .u64 (IntKind.wrap .u64 (da+(IntKind.wrap .u64 ((Int.tmod (IntKind.wrap .u64 ((nth v0 aW.toNat).toNat:Int)) 128)*bc))))),.d (cK .u64 (IntKind.wrap .u64 (bc*128)))] rfl ⟨az.g (GK rfl rfl rfl),az.g (xL rfl rfl rfl),az.g (GK rfl rfl rfl),az.g (CU rfl rfl cP rfl)⟩ (.ite H rfl (λH=>?_) (λH=>?_))
    ·obtain ⟨dD,H⟩:=ab H
     refine .A 6 [.i (aW+1)] rfl (ay rfl rfl dD) ?_
     cases H
     exact .z bt rfl rfl
    ·obtain ⟨dY,H⟩:=ab H
     obtain ⟨fh,H⟩:=ab H
     obtain ⟨y1,dI,H⟩:=af H
     obtain ⟨gM,H⟩:=ab H
     refine .A 17 [.i (aW+1),.d (ag 1 cq (v0.drop (aW+1).toNat)),.d (ag 1 cq y1),.d (cK .u64 (Int.tmod (IntKind.wrap .u64 (da+(IntKind.wrap .u64 ((Int.tmod (IntKind.wrap .u64 ((nth v0 aW.toNat).toNat:Int)) 128)*bc)))) 2))] rfl ⟨az.g (CU rfl rfl gM rfl),ax (en 32 rfl) rfl rfl ((Ce dI).le ⟨.nil 1,.av _,trivial⟩),az.g (ye (l:=v0) (row:=cq) underlying84 nR nS rfl rfl rfl fh),ay rfl rfl dY⟩ (.ite H rfl (λH=>?_) (λH=>?_))
     ·obtain ⟨jX,H⟩:=ab H
      obtain ⟨mb,H⟩:=ab H
      obtain ⟨pM,H⟩:=ab H
      refine .A 12 [.d (cK .u64 (IntKind.wrap .u64 (Int.tdiv (IntKind.wrap .u64 (da+(IntKind.wrap .u64 ((Int.tmod (IntKind.wrap .u64 ((nth v0 aW.toNat).toNat:Int)) 128)*bc)))) 2))),.i (IntKind.wrap .i64 (IntKind.wrap .u64 (Int.tdiv (IntKind.wrap .u64 (da+(IntKind.wrap .u64 ((Int.tmod (IntKind.wrap .u64 ((nth v0 aW.toNat).toNat:Int)) 128)*bc)))) 2))),.i (-(IntKind.wrap .i64 (IntKind.wrap .u64 (Int.tdiv (IntKind.wrap .u64 (da+(IntKind.wrap .u64 ((Int.tmod (IntKind.wrap .u64 ((nth v0 aW.toNat).toNat:Int)) 128)*bc)))) 2)))),.i ((-(IntKind.wrap .i64 (IntKind.wrap .u64 (Int.tdiv (IntKind.wrap .u64 (da+(IntKind.wrap .u64 ((Int.tmod (IntKind.wrap .u64 ((nth v0 aW.toNat).toNat:Int)) 128)*bc)))) 2)))) - 1)] rfl ⟨gZ rfl rfl pM,az.g (PR rfl mb.1 mb.2),az.g (nV underlying183 underlying3 rfl rfl),az.g (CT rfl rfl jX rfl)⟩ (.R func78 results78 rfl ?_)
      cases H
      cases bt
      exact .m rfl (.cZ rfl)
     ·obtain ⟨gO,H⟩:=ab H
      refine .A 11 [.d (cK .u64 (IntKind.wrap .u64 (Int.tdiv (IntKind.wrap .u64 (da+(IntKind.wrap .u64 ((Int.tmod (IntKind.wrap .u64 ((nth v0 aW.toNat).toNat:Int)) 128)*bc)))) 2))),.i (IntKind.wrap .i64 (IntKind.wrap .u64 (Int.tdiv (IntKind.wrap .u64 (da+(IntKind.wrap .u64 ((Int.tmod (IntKind.wrap .u64 ((nth v0 aW.toNat).toNat:Int)) 128)*bc)))) 2)))] rfl ⟨az.g (nV underlying183 underlying3 rfl rfl),az.g (CT rfl rfl gO rfl)⟩ (.R func78 results78 rfl ?_)
      cases H
      cases bt
      exact .m rfl (.cZ rfl)
 ·refine .E 7 rfl (.R func78 results78 rfl ?_)
  cases H
  cases bt
  exact .m rfl (.eP ⟨.av _,.nil 1,.av _,trivial⟩)
theorem D2 {aU:O uA} {r:Int} (H:lU aU=some r):aB prog 79 [ag 1 cq aU] (·=cK .u32 r):=by
 refine aB.aS func79 rfl ntmps79 rfl λS hS=>?_
 unfold lU at H
 refine .E 14 rfl (.lp H (λ⟨bU,aq⟩=>[(0,.d (ag 1 cq aU)),(3,.d (cK .u32 bU)),(4,.d (cI aq))]) (λ⟨bU,aq⟩=>⟨[],[]⟩) (.k3 rfl rfl rfl (.nil)) rfl ?_)
 rintro ⟨bU,aq⟩ q1 H bt
 dsimp only at H
 unfold nA at H
 refine .A 8 [.i (aU.length:Int)] rfl (ju.n rfl rfl) (.ite H rfl (λH=>?_) (λH=>?_))
 ·obtain ⟨cA,H⟩:=ab H
  obtain ⟨cP,H⟩:=ab H
  refine .A 20 [.d (.ro (cq (nth aU aq.toNat))),.d (cK .u32 (IntKind.wrap .u32 ((nth aU aq.toNat).toNat:Int))),.d (cK .u32 (MV .u32 bU (IntKind.wrap .u32 ((nth aU aq.toNat).toNat:Int)))),.d (cK .u32 (IntKind.wrap .u32 ((MV .u32 bU (IntKind.wrap .u32 ((nth aU aq.toNat).toNat:Int)))*16777619))),.i (aq+1)] rfl ⟨ay rfl rfl cP,az.g (GK rfl rfl rfl),az.g (Sy rfl rfl),az.g (nV (n:=((nth aU aq.toNat).toNat:Int)) underlying5 underlying168 rfl rfl),ju.ix rfl rfl rfl cA⟩ ?_
  cases H
  exact .z bt rfl rfl
 ·refine .E 6 rfl (.R func79 results79 rfl ?_)
  cases H
  cases bt
  exact .m rfl (.av _)
theorem oR {v0:O uA} {r:(O uA)×(O uA)×Int} (H:gr v0=some r):aB prog 60 [ag 1 cq v0] (·=.dp [ag 1 cq r.1,ag 1 cq r.2.1,cI r.2.2]):=by
 obtain ⟨i5,nR,xr,nS,DY⟩:=u4
 refine aB.aS func60 rfl ntmps60 rfl λS hS=>?_
 unfold gr at H
 obtain ⟨y1,dI,H⟩:=af H
 refine .A 26 [.d (.dp [cI y1.1,ag 1 cq y1.2.1,cI y1.2.2])] rfl (ax (en 33 rfl) rfl rfl (sJ dI)) (.ite H rfl (λH=>?_) (λH=>?_))
 ·refine .E 7 rfl (.R func60 results60 rfl ?_)
  cases H
  exact .m rfl (.eP ⟨.nil 1,.nil 1,.av _,trivial⟩)
 ·refine .E 6 rfl (.ite H rfl (λH=>?_) (λH=>?_))
  ·refine .E 6 rfl (.R func60 results60 rfl ?_)
   cases H
   exact .m rfl (.eP ⟨.nil 1,.nil 1,.av _,trivial⟩)
  ·refine .E 6 rfl (.ite H rfl (λH=>?_) (λH=>?_))
   ·refine .E 6 rfl (.R func60 results60 rfl ?_)
    cases H
    exact .m rfl (.eP ⟨.nil 1,.nil 1,.av _,trivial⟩)
   ·obtain ⟨cA,H⟩:=ab H
    refine .A 9 [.i (y1.2.1.length:Int),.i (4+y1.1)] rfl ⟨ay rfl rfl cA,ju.n rfl rfl⟩ (.ite H rfl (λH=>?_) (λH=>?_))
    ·refine .E 6 rfl (.R func60 results60 rfl ?_)
     cases H
     exact .m rfl (.eP ⟨.nil 1,.nil 1,.av _,trivial⟩)
    ·obtain ⟨cP,H⟩:=ab H
     obtain ⟨dD,H⟩:=ab H
     obtain ⟨dY,H⟩:=ab H
     obtain ⟨fh,H⟩:=ab H
     obtain ⟨gM,H⟩:=ab H
     obtain ⟨jX,H⟩:=ab H
     obtain ⟨mb,H⟩:=ab H
     obtain ⟨pM,H⟩:=ab H
     obtain ⟨gO,H⟩:=ab H
     obtain ⟨m4,H⟩:=ab H
     obtain ⟨y2,gN,H⟩:=af H
     refine let z0:=(min (Int.toNat (24)) 32);let z1:=(min (Int.toNat (16)) 32);let z2:=(ag 1 cq ((y1.2.1.take (4+y1.1).toNat).drop ((4:Int)).toNat));let z3:=(min (Int.toNat (8)) 32);.A 47 [.d (.e0 1),.i (4+y1.1),.d z2,.d z2,.p 23,.d (.ro (cq (nth y1.2.1 (Int.toNat (0))))),.d (cK .u32 (IntKind.wrap .u32 ((nth y1.2.1 (Int.toNat (0))).toNat:Int))),.d (cK .u32 (IntKind.wrap .u32 ((IntKind.wrap .u32 ((nth y1.2.1 (Int.toNat (0))).toNat:Int))*2 ^ z0))),.d (.ro (cq (nth y1.2.1 (Int.toNat (1))))),.d (cK .u32 (IntKind.wrap .u32 ((nth y1.2.1 (Int.toNat (1))).toNat:Int))),.d (cK .u32 (IntKind.wrap .u32 ((IntKind.wrap .u32 ((nth y1.2.1 (Int.toNat (1))).toNat:Int))*2 ^ z1))),.d (cK .u32 (IntKind.wrap .u32 ((IntKind.wrap .u32 ((IntKind.wrap .u32 ((nth y1.2.1 (Int.toNat (0))).toNat:Int))*2 ^ z0))+(IntKind.wrap .u32 ((IntKind.wrap .u32 ((nth y1.2.1 (Int.toNat (1))).toNat:Int))*2 ^ z1))))),.d (.ro (cq (nth y1.2.1 (Int.toNat (2))))),.d (cK .u32 (IntKind.wrap .u32 ((nth y1.2.1 (Int.toNat (2))).toNat:Int))),.d (cK .u32 (IntKind.wrap .u32 ((IntKind.wrap .u32 ((nth y1.2.1 (Int.toNat (2))).toNat:Int))*2 ^ z3))),.d (cK .u32 (IntKind.wrap .u32 ((IntKind.wrap .u32 ((IntKind.wrap .u32 ((IntKind.wrap .u32 ((nth y1.2.1 (Int.toNat (0))).toNat:Int))*2 ^ z0))+(IntKind.wrap .u32 ((IntKind.wrap .u32 ((nth y1.2.1 (Int.toNat (1))).toNat:Int))*2 ^ z1))))+(IntKind.wrap .u32 ((IntKind.wrap .u32 ((nth y1.2.1 (Int.toNat (2))).toNat:Int))*2 ^ z3))))),.d (.ro (cq (nth y1.2.1 (Int.toNat (3))))),.d (cK .u32 (IntKind.wrap .u32 ((nth y1.2.1 (Int.toNat (3))).toNat:Int))),.d (cK .u32 (IntKind.wrap .u32 ((IntKind.wrap .u32 ((IntKind.wrap .u32 ((IntKind.wrap .u32 ((IntKind.wrap .u32 ((nth y1.2.1 (Int.toNat (0))).toNat:Int))*2 ^ z0))+(IntKind.wrap .u32 ((IntKind.wrap .u32 ((nth y1.2.1 (Int.toNat (1))).toNat:Int))*2 ^ z1))))+(IntKind.wrap .u32 ((IntKind.wrap .u32 ((nth y1.2.1 (Int.toNat (2))).toNat:Int))*2 ^ z3))))+(IntKind.wrap .u32 ((nth y1.2.1 (Int.toNat (3))).toNat:Int))))),.d (cK .u32 y2)] rfl ⟨ax (en 34 rfl) rfl rfl (D2 gN),az.g (xL rfl rfl rfl),az.g (nV (n:=((nth y1.2.1 (Int.toNat (3))).toNat:Int)) underlying5 underlying168 rfl rfl),ju.ix rfl rfl rfl m4,az.g (xL rfl rfl rfl),az.g (JH (a:=IntKind.wrap .u32 ((nth y1.2.1 (Int.toNat (2))).toNat:Int)) (b:=8) rfl rfl gO rfl),az.g (nV (n:=((nth y1.2.1 (Int.toNat (2))).toNat:Int)) underlying5 underlying168 rfl rfl),ju.ix rfl rfl rfl pM,az.g (xL rfl rfl rfl),az.g (JH (a:=IntKind.wrap .u32 ((nth y1.2.1 (Int.toNat (1))).toNat:Int)) (b:=16) rfl rfl mb rfl),az.g (nV (n:=((nth y1.2.1 (Int.toNat (1))).toNat:Int)) underlying5 underlying168 rfl rfl),ju.ix rfl rfl rfl jX,az.g (JH (a:=IntKind.wrap .u32 ((nth y1.2.1 (Int.toNat (0))).toNat:Int)) (b:=24) rfl rfl gM rfl),az.g (nV (n:=((nth y1.2.1 (Int.toNat (0))).toNat:Int)) underlying5 underlying168 rfl rfl),ju.ix rfl rfl rfl fh,by kernel_rfl,eO (l':=(y1.2.1.take (4+y1.1).toNat).drop ((4:Int)).toNat) (row:=cq) underlying84 nR xr nS rfl (by rw[DY];decide) rfl (.inl rfl) rfl rfl dY,az.g (qR (l:=y1.2.1) (row:=cq) underlying84 nR nS rfl rfl rfl rfl dD),ay rfl rfl cP,(nS▸bp underlying84 nR)⟩ ?_
     refine .ite H rfl (λH=>?_) (λH=>?_)
     ·refine .E 6 rfl (.R func60 results60 rfl ?_)
      cases H
      exact .m rfl (.eP ⟨.nil 1,.nil 1,.av _,trivial⟩)
     ·obtain ⟨nk,H⟩:=ab H
      obtain ⟨rV,H⟩:=ab H
      obtain ⟨vm,H⟩:=ab H
      refine let z0:=(ag 1 cq (y1.2.1.drop (4+y1.1).toNat));.A 14 [.d (.e0 1),.i (4+y1.1),.d z0,.d z0] rfl ⟨eO (l':=y1.2.1.drop (4+y1.1).toNat) (row:=cq) underlying84 nR xr nS rfl (by rw[DY];decide) rfl (.inl rfl) rfl rfl vm,az.g (ye (l:=y1.2.1) (row:=cq) underlying84 nR nS rfl rfl rfl rV),ay rfl rfl nk,(nS▸bp underlying84 nR)⟩ ?_
      refine .R func60 results60 rfl ?_
      cases H
      exact .m rfl (.cZ rfl)
theorem vn {aU:O uA} {jj:Int} {r:(O Int)×Int} (H:iB aU jj=some r):aB prog 76 [ag 1 cq aU,cI jj] (·=.dp [ag 1 rI r.1,cI r.2]):=by
 obtain ⟨i3,ji,rL,mc,Fp⟩:=u3
 refine aB.aS func76 rfl ntmps76 rfl λS hS=>?_
 unfold iB at H
 refine .E 14 rfl (.tok (i:=6) (e:=3) (sz:=1) rfl (.bw (ι:=O uA×O Int) (λ⟨yz,rh⟩=>[(0,.d (ag 1 cq yz)),(6,.bX 1 (rh.map rI) 0)]) (λ⟨yz,rh⟩=>⟨[],[u5 rh.length]⟩) (λs=>jE s.1 s.2=some r) ?_ ?_))
 ·rintro ⟨yz,rh⟩ H
  replace H:jE yz rh=some r:=H
  unfold jE at H
  refine .A 7 [.i (yz.length:Int)] rfl (ju.n rfl rfl) (.ite H rfl (λH=>?_) (λH=>?_))
  ·refine .E 5 rfl (.R func76 results76 rfl ?_)
   cases H
   exact .m rfl (.eP ⟨.nil 1,.av _,trivial⟩)
  ·refine .E 7 rfl (.R func76 results76 rfl ?_)
   cases H
   exact .m rfl (.eP ⟨.bX _ _ _,.av _,trivial⟩)
 ·intro ly eF
  refine .lp H (λ⟨yA,dK,bn⟩=>[(0,.d (ag 1 cq yA)),(1,.d (cI jj)),(6,.bX 1 (dK.map rI) 0),(7,.d (cI bn))]) (λ⟨yA,dK,bn⟩=>⟨[],[u5 dK.length]⟩) (.k4 rfl rfl rfl rfl (.nil)) rfl ?_
  rintro ⟨yA,dK,bn⟩ q1 H bt
  dsimp only at H
  unfold mq at H
  refine .E 7 rfl (.ite H rfl (λH=>?_) (λH=>?_))
  ·obtain ⟨y1,dI,H⟩:=af H
   refine .A 21 [.d (.dp [cI y1.1,ag 1 cq y1.2.1,cI y1.2.2])] rfl (ax (en 33 rfl) rfl rfl (sJ dI)) (.ite H rfl (λH=>?_) (λH=>?_))
   ·refine .E 6 rfl (.R func76 results76 rfl ?_)
    cases H
    cases bt
    exact .m rfl (.eP ⟨.nil 1,.av _,trivial⟩)
   ·obtain ⟨cA,H⟩:=ab H
    obtain ⟨cP,H⟩:=ab H
    refine .A 19 [.d (ag 1 rI ([y1.1]:O Int)),.a 0 3 1 rI (dK++([y1.1]:O Int)),.i (bn+1)] rfl ⟨ay rfl rfl cP,jq.a rfl rfl rfl rfl cA,aC underlying100 ji mc rL rfl rfl rfl rfl rfl⟩ ?_
    cases H
    exact .z bt rfl rfl
  ·refine .E 1 rfl ?_
   obtain ⟨q0,H9,lz⟩:=bK H;clear H;cases lz
   cases bt
   have H:=H9
   exact .z (eF (yA,dK) H) rfl rfl
theorem vo {iD c9 sw r:Int} (H:iC iD c9 sw=some r):aB prog 77 [cI iD,cI c9,cI sw] (·=cI r):=by
 refine aB.aS func77 rfl ntmps77 rfl λS hS=>?_
 unfold iC at H
 refine .A 22 [] rfl ⟨rfl,rfl,rfl,rfl,rfl,rfl⟩ (.ite H rfl (λH=>?_) (λH=>?_))
 ·refine .E 4 rfl (.R func77 results77 rfl ?_)
  cases H
  exact .m rfl (.av _)
 ·refine .A 11 [] rfl ⟨rfl,rfl⟩ (.ite H rfl (λH=>?_) (λH=>?_))
  ·refine .E 4 rfl (.R func77 results77 rfl ?_)
   cases H
   exact .m rfl (.av _)
  ·refine .E 5 rfl (.R func77 results77 rfl ?_)
   cases H
   exact .m rfl (.av _)
end Go.Proofs.Ytpdanklncjopoaa
