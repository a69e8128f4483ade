/- Our own texts LF E1 Sh LX LW0 LW1 LW2 LW3 of this seat in one. -/
import Derived.Test.YtnjdcednocmcnaaDoorYF1
import Derived.Lib.ItoaNum
import Derived.Lib.Join
import Derived.Sort.Grow
import Derived.Deep.Draws
import Derived.Shelf.Strings.Builder1
import Derived.Shelf.Strings.Builder2
import Derived.Shelf.Strings.OnBuilder
import Derived.Shelf.Strconv.Itoa0
import Derived.Shelf.Strconv.Itoa1
import Derived.Shelf.LaysM
import Derived.Shelf.Strconv.Itoa2
import Derived.Shelf.Strconv.Itoa3
import Derived.Test.YtnjdcednocmcnaaDoorProg
set_option linter.unusedSimpArgs false
set_option linter.unusedVariables false
set_option linter.unusedSectionVars false
namespace Go.Proofs.YtnjdcednocmcnaaDoor
open Go.RowKit Go.Abs
structure Event where
 at_:Int
 kind:Int
 account:Int
 sub:Int
 number:(List UInt8)
 name:(List UInt8)
 value:Int
instance:Inhabited Event:=⟨⟨default,default,default,default,default,default,default⟩⟩
def Event.row (x:Event):List D:=[cI x.at_,cI x.kind,cI x.account,cI x.sub,cS x.number,cS x.name,cI x.value]
structure Account where
 id:Int
 since:Int
 anchor:Int
 prepaid:Bool
 closed:Bool
 subs:(List Int)
instance:Inhabited Account:=⟨⟨default,default,default,default,default,default⟩⟩
def Account.row (x:Account):List D:=[cI x.id,cI x.since,cI x.anchor,cB x.prepaid,cB x.closed,slOf 1 rI x.subs]
def Account.row0 (x:Account):List D:=[cI x.id,cI x.since,cI x.anchor,cB x.prepaid,cB x.closed,.e0 1]
structure Sub where
 id:Int
 account:Int
 since:Int
 plan:(List UInt8)
 numbers:(List (List UInt8))
 products:(List (List UInt8))
 suspended:Bool
 family:Bool
instance:Inhabited Sub:=⟨⟨default,default,default,default,default,default,default,default⟩⟩
def Sub.row (x:Sub):List D:=[cI x.id,cI x.account,cI x.since,cS x.plan,slOf 1 rS x.numbers,slOf 1 rS x.products,cB x.suspended,cB x.family]
structure Billingref17Book where
 accounts:(List Account)
 subs:(List Sub)
 ended:(List Int)
instance:Inhabited Billingref17Book:=⟨⟨default,default,default⟩⟩
def Billingref17Book.row (x:Billingref17Book):List D:=[slOf 6 Account.row0 x.accounts,slOf 8 Sub.row x.subs,slOf 1 rI x.ended]
structure Record where
 source:Int
 serial:Int
 kind:Int
 a:(List UInt8)
 b:(List UInt8)
 start:Int
 units:Int
 call:Int
 part:Int
 last:Bool
 trunk:Int
 inbound:Bool
instance:Inhabited Record:=⟨⟨default,default,default,default,default,default,default,default,default,default,default,default⟩⟩
def Record.row (x:Record):List D:=[cI x.source,cI x.serial,cI x.kind,cS x.a,cS x.b,cI x.start,cI x.units,cI x.call,cI x.part,cB x.last,cI x.trunk,cB x.inbound]
def Record.vals (x:Record):List Value:=[.int .i64 x.source,.int .i64 x.serial,.int .i64 x.kind,.string ⟨x.a.toArray⟩,.string ⟨x.b.toArray⟩,.int .i64 x.start,.int .i64 x.units,.int .i64 x.call,.int .i64 x.part,.bool x.last,.int .i64 x.trunk,.bool x.inbound]
structure EnrichSource where
 record:Record
instance:Inhabited EnrichSource:=⟨⟨default⟩⟩
def EnrichSource.row (x:EnrichSource):List D:=[cI x.record.source,cI x.record.serial,cI x.record.kind,cS x.record.a,cS x.record.b,cI x.record.start,cI x.record.units,cI x.record.call,cI x.record.part,cB x.record.last,cI x.record.trunk,cB x.record.inbound]
structure Customers where
 accounts:(List Account)
 subs:(List Sub)
instance:Inhabited Customers:=⟨⟨default,default⟩⟩
def Customers.row (x:Customers):List D:=[slOf 6 Account.row x.accounts,slOf 8 Sub.row x.subs]
structure EnrichWork where
 source:EnrichSource
 events:(List Event)
instance:Inhabited EnrichWork:=⟨⟨default,default⟩⟩
def EnrichWork.row (x:EnrichWork):List D:=[cI x.source.record.source,cI x.source.record.serial,cI x.source.record.kind,cS x.source.record.a,cS x.source.record.b,cI x.source.record.start,cI x.source.record.units,cI x.source.record.call,cI x.source.record.part,cB x.source.record.last,cI x.source.record.trunk,cB x.source.record.inbound,slOf 7 Event.row x.events]
structure Usage where
 id:Int
 kind:Int
 account:Int
 sub:Int
 a:(List UInt8)
 b:(List UInt8)
 start:Int
 units:Int
 trunk:Int
 inbound:Bool
 source:Int
 serial:Int
instance:Inhabited Usage:=⟨⟨default,default,default,default,default,default,default,default,default,default,default,default⟩⟩
def Usage.row (x:Usage):List D:=[cI x.id,cI x.kind,cI x.account,cI x.sub,cS x.a,cS x.b,cI x.start,cI x.units,cI x.trunk,cB x.inbound,cI x.source,cI x.serial]
def Usage.vals (x:Usage):List Value:=[.int .i64 x.id,.int .i64 x.kind,.int .i64 x.account,.int .i64 x.sub,.string ⟨x.a.toArray⟩,.string ⟨x.b.toArray⟩,.int .i64 x.start,.int .i64 x.units,.int .i64 x.trunk,.bool x.inbound,.int .i64 x.source,.int .i64 x.serial]
def x_Itoa (n:Int):Option (List UInt8):=ck (-9223372036854775808≤n∧n≤9223372036854775807) (some (Go.Lib.itoa n))
def x_Join (xs:List (List UInt8)) (sep:List UInt8):Option (List UInt8):=ck (xs.length≤1000000000∧(Go.Lib.join xs sep).length≤1000000000) (some (Go.Lib.join xs sep))
def f_r17_uses_j3 (v22j3:Bool):Option (List Bool) :=
 if v22j3=true then some ([true,false,false,false,true]:List Bool) else some ([false,true,false,false,false]:List Bool)
def f_r17_uses_j2 (v0kind:Int) (v17j2:Bool):Option (List Bool) :=
 if v17j2=true then some ([false,true,false,true,false]:List Bool) else if (v0kind==14)=true then (f_r17_uses_j3 (v0kind==14)) else f_r17_uses_j3 (v0kind==15)
def f_r17_uses_j1 (v0kind:Int) (v13j1:Bool):Option (List Bool) :=
 if v13j1=true then some ([false,true,true,false,false]:List Bool) else if (v0kind==7)=true then (f_r17_uses_j2 v0kind (v0kind==7)) else if (v0kind==8)=true then (f_r17_uses_j2 v0kind (v0kind==8)) else f_r17_uses_j2 v0kind (v0kind==9)
def f_r17_uses (v0kind:Int):Option (List Bool) :=
 if (v0kind==1)=true then some ([true,false,false,true,true]:List Bool) else if (v0kind==2)=true then some ([true,false,false,false,false]:List Bool) else if (v0kind==3)=true then some ([true,true,false,true,false]:List Bool) else if (v0kind==5)=true then (f_r17_uses_j1 v0kind (v0kind==5)) else f_r17_uses_j1 v0kind (v0kind==6)
def f_r17_id (v0n:Int):Option Bool :=
 some ((decide (v0n≥1)) && (decide (v0n≤9999)))
def f_r17_Name_l1 (v0s:List UInt8) (v3il1:Int):Option ((Int) ⊕ Bool) :=
 if (decide (v3il1 < (v0s.length:Int)))=true then (ck ((0:Int)≤v3il1∧v3il1 < (v0s.length:Int)) (ck ((!(decide ((nth v0s v3il1.toNat) < 97)))=true→((0:Int)≤v3il1∧v3il1 < (v0s.length:Int))) (ck (((decide ((nth v0s v3il1.toNat) < 97)) || (decide ((nth v0s v3il1.toNat) > 122)))=true→((0:Int)≤v3il1∧v3il1 < (v0s.length:Int))) (ck ((((decide ((nth v0s v3il1.toNat) < 97)) || (decide ((nth v0s v3il1.toNat) > 122))) && (!(decide ((nth v0s v3il1.toNat) < 48))))=true→((0:Int)≤v3il1∧v3il1 < (v0s.length:Int))) (ck ((((decide ((nth v0s v3il1.toNat) < 97)) || (decide ((nth v0s v3il1.toNat) > 122))) && ((decide ((nth v0s v3il1.toNat) < 48)) || (decide ((nth v0s v3il1.toNat) > 57))))=true→((0:Int)≤v3il1∧v3il1 < (v0s.length:Int))) (if ((((decide ((nth v0s v3il1.toNat) < 97)) || (decide ((nth v0s v3il1.toNat) > 122))) && ((decide ((nth v0s v3il1.toNat) < 48)) || (decide ((nth v0s v3il1.toNat) > 57)))) && ((nth v0s v3il1.toNat) != 45))=true then some (.inr false) else ck (R64 (v3il1+1)) (some (.inl (v3il1+1))))))))) else some (.inr true)
def f_r17_Name (v0s:List UInt8):Option Bool :=
 ck ((!((decide ((v0s.length:Int) < 1)) || (decide ((v0s.length:Int) > 24))))=true→((0:Int)≤0∧0 < (v0s.length:Int))) (ck ((!(((decide ((v0s.length:Int) < 1)) || (decide ((v0s.length:Int) > 24))) || (decide ((nth v0s (Int.toNat (0))) < 97))))=true→((0:Int)≤0∧0 < (v0s.length:Int))) (if ((((decide ((v0s.length:Int) < 1)) || (decide ((v0s.length:Int) > 24))) || (decide ((nth v0s (Int.toNat (0))) < 97))) || (decide ((nth v0s (Int.toNat (0))) > 122)))=true then some false else loop (fun s=>f_r17_Name_l1 v0s s) 0))
def f_r02_Valid_j1 (v0s:List UInt8):Option Bool :=
 some ((decide ((v0s.length:Int)≥1)) && (decide ((v0s.length:Int)≤15)))
def f_r02_Valid_l1 (v0s:List UInt8) (v3il1:Int):Option ((Int) ⊕ Bool) :=
 if (decide (v3il1 < (v0s.length:Int)))=true then (ck ((0:Int)≤v3il1∧v3il1 < (v0s.length:Int)) (ck ((!(decide ((nth v0s v3il1.toNat) < 48)))=true→((0:Int)≤v3il1∧v3il1 < (v0s.length:Int))) (if ((decide ((nth v0s v3il1.toNat) < 48)) || (decide ((nth v0s v3il1.toNat) > 57)))=true then some (.inr false) else ck (R64 (v3il1+1)) (some (.inl (v3il1+1)))))) else (f_r02_Valid_j1 v0s).map (fun z=>.inr z)
def f_r02_Valid (v0s:List UInt8):Option Bool :=
 loop (fun s=>f_r02_Valid_l1 v0s s) 0
def f_r17_value (v0e:Event):Option Bool :=
 if (v0e.kind==1)=true then some ((decide (v0e.value≥1)) && (decide (v0e.value≤28))) else if (v0e.kind==14)=true then some ((decide (v0e.value≥1)) && (decide (v0e.value≤1125899906842624))) else some ((decide (v0e.value≥(-1125899906842624))) && (decide (v0e.value≤0)))
def f_r17_form (v0:Event) (v1:Int):Option Int :=
 if ((decide (v0.kind < 1)) || (decide (v0.kind > 15)))=true then some 7 else if ((decide (v0.at_ < 0)) || (decide (v0.at_≥12622780800)))=true then some 15 else if (decide (v0.at_ < v1))=true then some 9 else (f_r17_uses v0.kind).bind fun y1=>if ((((((!(nth y1 0)) && (v0.account != 0)) || ((!(nth y1 1)) && (v0.sub != 0))) || ((!(nth y1 2)) && (v0.number != ([]:List UInt8)))) || ((!(nth y1 3)) && (v0.name != ([]:List UInt8)))) || ((!(nth y1 4)) && (v0.value != 0)))=true then some 8 else (gcall (nth y1 0) (f_r17_id v0.account)).bind fun y2=>(gcall ((!((nth y1 0) && (!y2))) && (nth y1 1)) (f_r17_id v0.sub)).bind fun y3=>if (((nth y1 0) && (!y2)) || ((nth y1 1) && (!y3)))=true then some 6 else (gcall (nth y1 3) (f_r17_Name v0.name)).bind fun y4=>if (((nth y1 3) && (!y4)) || (((v0.kind==1) && (v0.name != ([112,114,101,112,97,105,100]:List UInt8))) && (v0.name != ([112,111,115,116,112,97,105,100]:List UInt8))))=true then some 8 else (gcall (nth y1 2) (f_r02_Valid v0.number)).bind fun y5=>if ((nth y1 2) && (!y5))=true then some 12 else (gcall (nth y1 4) (f_r17_value v0)).bind fun y6=>if ((nth y1 4) && (!y6))=true then some 6 else some 0
def f_r17_account_l1 (v0b:Billingref17Book) (v1n:Int) (v5il1:Int):Option ((Int) ⊕ Int) :=
 if (decide (v5il1 < (v0b.accounts.length:Int)))=true then (ck ((0:Int)≤v5il1∧v5il1 < (v0b.accounts.length:Int)) (if (((nth v0b.accounts v5il1.toNat).id)==v1n)=true then some (.inr v5il1) else ck (R64 (v5il1+1)) (some (.inl (v5il1+1))))) else some (.inr (-1))
def f_r17_account (v0b:Billingref17Book) (v1n:Int):Option Int :=
 loop (fun s=>f_r17_account_l1 v0b v1n s) 0
def f_r17_sub_l1 (v0b:Billingref17Book) (v1n:Int) (v5il1:Int):Option ((Int) ⊕ Int) :=
 if (decide (v5il1 < (v0b.subs.length:Int)))=true then (ck ((0:Int)≤v5il1∧v5il1 < (v0b.subs.length:Int)) (if (((nth v0b.subs v5il1.toNat).id)==v1n)=true then some (.inr v5il1) else ck (R64 (v5il1+1)) (some (.inl (v5il1+1))))) else some (.inr (-1))
def f_r17_sub (v0b:Billingref17Book) (v1n:Int):Option Int :=
 loop (fun s=>f_r17_sub_l1 v0b v1n s) 0
def f_r17_ended_l1 (v0b:Billingref17Book) (v1n:Int) (v5il1:Int):Option ((Int) ⊕ Bool) :=
 if (decide (v5il1 < (v0b.ended.length:Int)))=true then (ck ((0:Int)≤v5il1∧v5il1 < (v0b.ended.length:Int)) (if ((nth v0b.ended v5il1.toNat)==v1n)=true then some (.inr true) else ck (R64 (v5il1+1)) (some (.inl (v5il1+1))))) else some (.inr false)
def f_r17_ended (v0b:Billingref17Book) (v1n:Int):Option Bool :=
 loop (fun s=>f_r17_ended_l1 v0b v1n s) 0
def f_r17_busy_l1 (v0b:Billingref17Book) (v1n:Int) (v5il1:Int):Option ((Int) ⊕ Bool) :=
 if (decide (v5il1 < (v0b.subs.length:Int)))=true then (ck ((0:Int)≤v5il1∧v5il1 < (v0b.subs.length:Int)) (ck ((((nth v0b.subs v5il1.toNat).account)==v1n)=true→((0:Int)≤v5il1∧v5il1 < (v0b.subs.length:Int))) ((gcall (((nth v0b.subs v5il1.toNat).account)==v1n) (f_r17_ended v0b ((nth v0b.subs v5il1.toNat).id))).bind fun y1=>if ((((nth v0b.subs v5il1.toNat).account)==v1n) && (!y1))=true then some (.inr true) else ck (R64 (v5il1+1)) (some (.inl (v5il1+1)))))) else some (.inr false)
def f_r17_busy (v0b:Billingref17Book) (v1n:Int):Option Bool :=
 loop (fun s=>f_r17_busy_l1 v0b v1n s) 0
def f_r17_ofAccount (v0b:Billingref17Book) (v1e:Event):Option Int :=
 (f_r17_account v0b v1e.account).bind fun y1=>if (v1e.kind==1)=true then (if (decide (y1≥0))=true then some 10 else some 0) else if (decide (y1 < 0))=true then some 11 else ck ((0:Int)≤y1∧y1 < (v0b.accounts.length:Int)) (if ((nth v0b.accounts y1.toNat).closed)=true then some 17 else (gcall (v1e.kind==3) (f_r17_sub v0b v1e.sub)).bind fun y2=>if ((v1e.kind==3) && (decide (y2≥0)))=true then some 10 else (gcall (v1e.kind==2) (f_r17_busy v0b v1e.account)).bind fun y3=>ck (((!((v1e.kind==2) && y3)) && (decide (v1e.kind > 13)))=true→((0:Int)≤y1∧y1 < (v0b.accounts.length:Int))) (if (((v1e.kind==2) && y3) || ((decide (v1e.kind > 13)) && (!((nth v0b.accounts y1.toNat).prepaid))))=true then some 22 else some 0))
def f_r17_Has_l1 (v0l:List (List UInt8)) (v1s:List UInt8) (v5il1:Int):Option ((Int) ⊕ Bool) :=
 if (decide (v5il1 < (v0l.length:Int)))=true then (ck ((0:Int)≤v5il1∧v5il1 < (v0l.length:Int)) (if ((nth v0l v5il1.toNat)==v1s)=true then some (.inr true) else ck (R64 (v5il1+1)) (some (.inl (v5il1+1))))) else some (.inr false)
def f_r17_Has (v0l:List (List UInt8)) (v1s:List UInt8):Option Bool :=
 loop (fun s=>f_r17_Has_l1 v0l v1s s) 0
def f_r17_taken_l1 (v0b:Billingref17Book) (v1number:List UInt8) (v5il1:Int):Option ((Int) ⊕ Bool) :=
 if (decide (v5il1 < (v0b.subs.length:Int)))=true then (ck ((0:Int)≤v5il1∧v5il1 < (v0b.subs.length:Int)) ((f_r17_Has ((nth v0b.subs v5il1.toNat).numbers) v1number).bind fun y1=>if y1=true then some (.inr true) else ck (R64 (v5il1+1)) (some (.inl (v5il1+1))))) else some (.inr false)
def f_r17_taken (v0b:Billingref17Book) (v1number:List UInt8):Option Bool :=
 loop (fun s=>f_r17_taken_l1 v0b v1number s) 0
def f_r17_ofSub_j2 (v0:Billingref17Book) (v1:Event) (y1:Int) (v62j2:Bool):Option Int :=
 if v62j2=true then (if (((nth v0.subs y1.toNat).family)==(v1.kind==12))=true then some 22 else some 0) else some 0
def f_r17_ofSub_j1 (v0:Billingref17Book) (v1:Event) (y1:Int) (v53j1:Bool):Option Int :=
 if v53j1=true then (if (((nth v0.subs y1.toNat).suspended)==(v1.kind==10))=true then some 22 else some 0) else if (v1.kind==12)=true then (f_r17_ofSub_j2 v0 v1 y1 (v1.kind==12)) else f_r17_ofSub_j2 v0 v1 y1 (v1.kind==13)
def f_r17_ofSub (v0:Billingref17Book) (v1:Event):Option Int :=
 (f_r17_sub v0 v1.sub).bind fun y1=>if (decide (y1 < 0))=true then some 11 else (f_r17_ended v0 v1.sub).bind fun y2=>if y2=true then some 17 else ck ((0:Int)≤y1∧y1 < (v0.subs.length:Int)) (if (v1.kind==5)=true then ((f_r17_taken v0 v1.number).bind fun y3=>if y3=true then some 12 else some 0) else if (v1.kind==6)=true then ((f_r17_Has ((nth v0.subs y1.toNat).numbers) v1.number).bind fun y4=>if (!y4)=true then some 12 else some 0) else if (v1.kind==8)=true then ((f_r17_Has ((nth v0.subs y1.toNat).products) v1.name).bind fun y5=>if y5=true then some 10 else some 0) else if (v1.kind==9)=true then ((f_r17_Has ((nth v0.subs y1.toNat).products) v1.name).bind fun y6=>if (!y6)=true then some 11 else some 0) else if (v1.kind==10)=true then (f_r17_ofSub_j1 v0 v1 y1 (v1.kind==10)) else f_r17_ofSub_j1 v0 v1 y1 (v1.kind==11))
def f_r17_Fault (v0b:Billingref17Book) (v1e:Event) (v2last:Int):Option Int :=
 (f_r17_form v1e v2last).bind fun y1=>if (y1 != 0)=true then some y1 else (f_r17_uses v1e.kind).bind fun y2=>if (nth y2 0)=true then ((f_r17_ofAccount v0b v1e).bind fun y3=>some y3) else (f_r17_ofSub v0b v1e).bind fun y4=>some y4
def f_r17_With_j1 (v0l:List (List UInt8)) (v1s:List UInt8) (v5atj1:Int):Option (List (List UInt8)) :=
 ck ((0:Int)≤v5atj1∧v5atj1≤(v0l.length:Int)) (ck (([]:List (List UInt8)).length+(v0l.take v5atj1.toNat).length≤1000000000) (ck ((([]:List (List UInt8))++(v0l.take v5atj1.toNat)).length+([v1s]:List (List UInt8)).length≤1000000000) (ck ((0:Int)≤v5atj1∧v5atj1≤(v0l.length:Int)) (ck (((([]:List (List UInt8))++(v0l.take v5atj1.toNat))++([v1s]:List (List UInt8))).length+(v0l.drop v5atj1.toNat).length≤1000000000) (some (((([]:List (List UInt8))++(v0l.take v5atj1.toNat))++([v1s]:List (List UInt8)))++(v0l.drop v5atj1.toNat)))))))
def f_r17_With_l1 (v0l:List (List UInt8)) (v1s:List UInt8) (v5atl1:Int):Option ((Int) ⊕ (List (List UInt8))) :=
 ck ((decide (v5atl1 < (v0l.length:Int)))=true→((0:Int)≤v5atl1∧v5atl1 < (v0l.length:Int))) (if ((decide (v5atl1 < (v0l.length:Int))) && (strlss (nth v0l v5atl1.toNat) v1s))=true then (ck (R64 (v5atl1+1)) (some (.inl (v5atl1+1)))) else (f_r17_With_j1 v0l v1s v5atl1).map (fun z=>.inr z))
def f_r17_With (v0l:List (List UInt8)) (v1s:List UInt8):Option (List (List UInt8)) :=
 loop (fun s=>f_r17_With_l1 v0l v1s s) 0
def f_r17_Without_l1 (v0l:List (List UInt8)) (v1s:List UInt8) (v5outl1:List (List UInt8)) (v6il1:Int):Option ((List (List UInt8)×Int) ⊕ (List (List UInt8))) :=
 if (decide (v6il1 < (v0l.length:Int)))=true then (ck ((0:Int)≤v6il1∧v6il1 < (v0l.length:Int)) (if ((nth v0l v6il1.toNat) != v1s)=true then (ck ((0:Int)≤v6il1∧v6il1 < (v0l.length:Int)) (ck (v5outl1.length+([nth v0l v6il1.toNat]:List (List UInt8)).length≤1000000000) (ck (R64 (v6il1+1)) (some (.inl (v5outl1++([nth v0l v6il1.toNat]:List (List UInt8)),v6il1+1)))))) else ck (R64 (v6il1+1)) (some (.inl (v5outl1,v6il1+1))))) else some (.inr v5outl1)
def f_r17_Without (v0l:List (List UInt8)) (v1s:List UInt8):Option (List (List UInt8)) :=
 loop (fun s=>f_r17_Without_l1 v0l v1s s.1 s.2) (([]:List (List UInt8)),0)
def f_r17_changed (v0s:Sub) (v1e:Event):Option Sub :=
 if (v1e.kind==4)=true then some (⟨v0s.id,v0s.account,v0s.since,v0s.plan,([]:List (List UInt8)),([]:List (List UInt8)),v0s.suspended,v0s.family⟩:Sub) else if (v1e.kind==5)=true then ((f_r17_With v0s.numbers v1e.number).bind fun y1=>some (⟨v0s.id,v0s.account,v0s.since,v0s.plan,y1,v0s.products,v0s.suspended,v0s.family⟩:Sub)) else if (v1e.kind==6)=true then ((f_r17_Without v0s.numbers v1e.number).bind fun y2=>some (⟨v0s.id,v0s.account,v0s.since,v0s.plan,y2,v0s.products,v0s.suspended,v0s.family⟩:Sub)) else if (v1e.kind==7)=true then some (⟨v0s.id,v0s.account,v0s.since,v1e.name,v0s.numbers,v0s.products,v0s.suspended,v0s.family⟩:Sub) else if (v1e.kind==8)=true then ((f_r17_With v0s.products v1e.name).bind fun y3=>some (⟨v0s.id,v0s.account,v0s.since,v0s.plan,v0s.numbers,y3,v0s.suspended,v0s.family⟩:Sub)) else if (v1e.kind==9)=true then ((f_r17_Without v0s.products v1e.name).bind fun y4=>some (⟨v0s.id,v0s.account,v0s.since,v0s.plan,v0s.numbers,y4,v0s.suspended,v0s.family⟩:Sub)) else if (v1e.kind==10)=true then some (⟨v0s.id,v0s.account,v0s.since,v0s.plan,v0s.numbers,v0s.products,true,v0s.family⟩:Sub) else if (v1e.kind==11)=true then some (⟨v0s.id,v0s.account,v0s.since,v0s.plan,v0s.numbers,v0s.products,false,v0s.family⟩:Sub) else if (v1e.kind==12)=true then some (⟨v0s.id,v0s.account,v0s.since,v0s.plan,v0s.numbers,v0s.products,v0s.suspended,true⟩:Sub) else if (v1e.kind==13)=true then some (⟨v0s.id,v0s.account,v0s.since,v0s.plan,v0s.numbers,v0s.products,v0s.suspended,false⟩:Sub) else some v0s
def f_r17_Apply_j1 (v0:Billingref17Book) (v1:Event) (v90j1:Bool):Option Billingref17Book :=
 if v90j1=true then some (⟨([]:List Account)++v0.accounts,([]:List Sub)++v0.subs,([]:List Int)++v0.ended⟩:Billingref17Book) else (f_r17_sub v0 v1.sub).bind fun y2=>ck ((0:Int)≤y2∧y2 < ((([]:List Sub)++v0.subs).length:Int)) (ck (y2.toNat < (([]:List Sub)++v0.subs).length) ((f_r17_changed (nth (([]:List Sub)++v0.subs) y2.toNat) v1).bind fun y3=>ck ((0:Int)≤y2∧y2 < ((([]:List Sub)++v0.subs).length:Int)) (ck (y2.toNat < (([]:List Sub)++v0.subs).length) (if (v1.kind==4)=true then (ck ((([]:List Int)++v0.ended).length+([v1.sub]:List Int).length≤1000000000) (some (⟨([]:List Account)++v0.accounts,(([]:List Sub)++v0.subs).set y2.toNat y3,(([]:List Int)++v0.ended)++([v1.sub]:List Int)⟩:Billingref17Book))) else some (⟨([]:List Account)++v0.accounts,(([]:List Sub)++v0.subs).set y2.toNat y3,([]:List Int)++v0.ended⟩:Billingref17Book)))))
def f_r17_Apply (v0:Billingref17Book) (v1:Event):Option Billingref17Book :=
 ck (v0.accounts.length≤1000000000) (ck (v0.subs.length≤1000000000) (ck (v0.ended.length≤1000000000) (if (v1.kind==1)=true then (ck ((([]:List Account)++v0.accounts).length+([(⟨v1.account,v1.at_,v1.value,(v1.name==([112,114,101,112,97,105,100]:List UInt8)),false,([]:List Int)⟩:Account)]:List Account).length≤1000000000) (some (⟨(([]:List Account)++v0.accounts)++([(⟨v1.account,v1.at_,v1.value,(v1.name==([112,114,101,112,97,105,100]:List UInt8)),false,([]:List Int)⟩:Account)]:List Account),([]:List Sub)++v0.subs,([]:List Int)++v0.ended⟩:Billingref17Book))) else if (v1.kind==2)=true then ((f_r17_account v0 v1.account).bind fun y1=>ck ((0:Int)≤y1∧y1 < ((([]:List Account)++v0.accounts).length:Int)) (ck (y1.toNat < (([]:List Account)++v0.accounts).length) (some (⟨(([]:List Account)++v0.accounts).set y1.toNat (⟨(nth (([]:List Account)++v0.accounts) y1.toNat).id,(nth (([]:List Account)++v0.accounts) y1.toNat).since,(nth (([]:List Account)++v0.accounts) y1.toNat).anchor,(nth (([]:List Account)++v0.accounts) y1.toNat).prepaid,true,([]:List Int)⟩:Account),([]:List Sub)++v0.subs,([]:List Int)++v0.ended⟩:Billingref17Book)))) else if (v1.kind==3)=true then (ck ((([]:List Sub)++v0.subs).length+([(⟨v1.sub,v1.account,v1.at_,v1.name,([]:List (List UInt8)),([]:List (List UInt8)),false,false⟩:Sub)]:List Sub).length≤1000000000) (some (⟨([]:List Account)++v0.accounts,(([]:List Sub)++v0.subs)++([(⟨v1.sub,v1.account,v1.at_,v1.name,([]:List (List UInt8)),([]:List (List UInt8)),false,false⟩:Sub)]:List Sub),([]:List Int)++v0.ended⟩:Billingref17Book))) else if (v1.kind==14)=true then (f_r17_Apply_j1 v0 v1 (v1.kind==14)) else f_r17_Apply_j1 v0 v1 (v1.kind==15))))
def f_r17_Check_l1 (v0events:List Event) (v5lastl1:Int) (v6il1:Int) (o0c0l1:List Account) (o0c1l1:List Sub) (o0c2l1:List Int):Option ((Int×Int×List Account×List Sub×List Int) ⊕ (Int×Int)) :=
 if (decide (v6il1 < (v0events.length:Int)))=true then (ck ((0:Int)≤v6il1∧v6il1 < (v0events.length:Int)) ((f_r17_Fault (⟨o0c0l1,o0c1l1,o0c2l1⟩:Billingref17Book) (nth v0events v6il1.toNat) v5lastl1).bind fun y1=>if (y1 != 0)=true then some (.inr (v6il1,y1)) else ck ((0:Int)≤v6il1∧v6il1 < (v0events.length:Int)) ((f_r17_Apply (⟨o0c0l1,o0c1l1,o0c2l1⟩:Billingref17Book) (nth v0events v6il1.toNat)).bind fun y2=>ck ((0:Int)≤v6il1∧v6il1 < (v0events.length:Int)) (ck (R64 (v6il1+1)) (some (.inl ((nth v0events v6il1.toNat).at_,v6il1+1,y2.accounts,y2.subs,y2.ended))))))) else some (.inr (0,0))
def f_r17_Check (v0events:List Event):Option (Int×Int) :=
 if (decide ((v0events.length:Int) > 4096))=true then some (0,5) else loop (fun s=>f_r17_Check_l1 v0events s.1 s.2.1 s.2.2.1 s.2.2.2.1 s.2.2.2.2) (0,0,([]:List Account),([]:List Sub),([]:List Int))
def f_r21_Few_j1 (v0events:List Event):Option Bool :=
 if (decide ((v0events.length:Int) > 40))=true then some false else (f_r17_Check v0events).bind fun y1=>some (y1.2==0)
def f_r21_Few_l1 (v0events:List Event) (v3il1:Int):Option ((Int) ⊕ Bool) :=
 if ((decide (v3il1 < (v0events.length:Int))) && (decide (v3il1 < 41)))=true then (ck ((0:Int)≤v3il1∧v3il1 < (v0events.length:Int)) (ck ((!(decide ((((nth v0events v3il1.toNat).name).length:Int) > 200)))=true→((0:Int)≤v3il1∧v3il1 < (v0events.length:Int))) (if ((decide ((((nth v0events v3il1.toNat).name).length:Int) > 200)) || (decide ((((nth v0events v3il1.toNat).number).length:Int) > 200)))=true then some (.inr false) else ck (R64 (v3il1+1)) (some (.inl (v3il1+1)))))) else (f_r21_Few_j1 v0events).map (fun z=>.inr z)
def f_r21_Few (v0events:List Event):Option Bool :=
 loop (fun s=>f_r21_Few_l1 v0events s) 0
def f_w21_short (v0r:Record):Option Bool :=
 some ((decide ((v0r.a.length:Int)≤200)) && (decide ((v0r.b.length:Int)≤200)))
def f_w21_opened:Option (List Event) :=
 some ([(⟨0,1,1,0,([]:List UInt8),([112,111,115,116,112,97,105,100]:List UInt8),1⟩:Event),(⟨0,3,1,2,([]:List UInt8),([98,97,115,105,99]:List UInt8),0⟩:Event),(⟨100,5,0,2,([52,57,49,53]:List UInt8),([]:List UInt8),0⟩:Event),(⟨200,10,0,2,([]:List UInt8),([]:List UInt8),0⟩:Event)]:List Event)
def f_textual_within (v0n:Int) (v1lo:Int) (v2hi:Int):Option Bool :=
 some ((decide (v0n≥v1lo)) && (decide (v0n≤v2hi)))
def f_digits_digit (v0c:UInt8):Option Bool :=
 some ((decide (v0c≥48)) && (decide (v0c≤57)))
def f_digits_Valid_j1 (v0s:List UInt8):Option Bool :=
 some ((decide ((v0s.length:Int)≥1)) && (decide ((v0s.length:Int)≤15)))
def f_digits_Valid_l1 (v0s:List UInt8) (v6l1:Int):Option ((Int) ⊕ Bool) :=
 if (decide (v6l1 < (v0s.length:Int)))=true then (ck ((0:Int)≤v6l1∧v6l1 < (v0s.length:Int)) ((f_digits_digit (nth v0s v6l1.toNat)).bind fun y1=>if (!y1)=true then some (.inr false) else ck (R64 (v6l1+1)) (some (.inl (v6l1+1))))) else (f_digits_Valid_j1 v0s).map (fun z=>.inr z)
def f_digits_Valid (v0s:List UInt8):Option Bool :=
 loop (fun s=>f_digits_Valid_l1 v0s s) 0
def f_textual_check_j1 (v0:Record) (v4j1:Int):Option Int :=
 (f_textual_within v0.source 1 99).bind fun y1=>(gcall (!(!y1)) (f_textual_within v0.serial 1 999999999)).bind fun y2=>if ((!y1) || (!y2))=true then some 6 else (f_textual_within v0.kind 1 4).bind fun y3=>if (!y3)=true then some 7 else (f_digits_Valid v0.a).bind fun y4=>(gcall (!(!y4)) (f_digits_Valid v0.b)).bind fun y5=>if ((!y4) || ((!y5) && (!(((v0.kind==3) || (v0.kind==4)) && (v0.b==([]:List UInt8))))))=true then some 12 else (f_textual_within v0.start 0 12622780799).bind fun y6=>if (!y6)=true then some 15 else (f_textual_within v0.units 0 v4j1).bind fun y7=>if (!y7)=true then some 6 else ck ((v0.kind==1)=true→(R64 (v0.start+v0.units))) (if ((v0.kind==1) && (decide ((v0.start+v0.units) > 12622780800)))=true then some 15 else (f_textual_within v0.call 0 999999999).bind fun y8=>(gcall (!(!y8)) (f_textual_within v0.part 0 99)).bind fun y9=>if ((!y8) || (!y9))=true then some 6 else if (((v0.part==0) != (v0.call==0)) || (v0.last && (v0.part==0)))=true then some 8 else (f_textual_within v0.trunk 0 999).bind fun y10=>if (!y10)=true then some 6 else if (v0.inbound && (v0.trunk==0))=true then some 8 else some 0)
def f_textual_check (v0:Record):Option Int :=
 if (v0.kind==1)=true then (f_textual_check_j1 v0 604800) else f_textual_check_j1 v0 1099511627776
def f_textual_Encode_j3 (v7j3:List (List UInt8)):Option ((List UInt8)×Int) :=
 (x_Join v7j3 ([32]:List UInt8)).bind fun y6=>some (y6,0)
def f_textual_Encode_j4 (v0:Record) (v7j2:List (List UInt8)) (v8j4:List UInt8):Option ((List UInt8)×Int) :=
 (x_Itoa v0.trunk).bind fun y7=>ck (v7j2.length+([v8j4,y7]:List (List UInt8)).length≤1000000000) (f_textual_Encode_j3 (v7j2++([v8j4,y7]:List (List UInt8))))
def f_textual_Encode_j2 (v0:Record) (v7j2:List (List UInt8)):Option ((List UInt8)×Int) :=
 if (v0.trunk != 0)=true then (if v0.inbound=true then (f_textual_Encode_j4 v0 v7j2 ([105,110]:List UInt8)) else f_textual_Encode_j4 v0 v7j2 ([111,117,116]:List UInt8)) else f_textual_Encode_j3 v7j2
def f_textual_Encode_j1 (v0:Record) (v6j1:List UInt8):Option ((List UInt8)×Int) :=
 ck (R64 (v0.kind-1)) (ck ((0:Int)≤v0.kind-1∧v0.kind-1≤v0.kind∧v0.kind≤(([118,116,100,99]:List UInt8).length:Int)) ((x_Itoa v0.source).bind fun y2=>(x_Itoa v0.serial).bind fun y3=>(x_Itoa v0.start).bind fun y4=>(x_Itoa v0.units).bind fun y5=>if (v0.part != 0)=true then ((x_Itoa v0.call).bind fun y8=>(x_Itoa v0.part).bind fun y9=>ck (([(([118,116,100,99]:List UInt8).take v0.kind.toNat).drop (v0.kind-1).toNat,y2,y3,v0.a,v6j1,y4,y5]:List (List UInt8)).length+([([112,97,114,116]:List UInt8),y8,y9]:List (List UInt8)).length≤1000000000) (if v0.last=true then (ck ((([(([118,116,100,99]:List UInt8).take v0.kind.toNat).drop (v0.kind-1).toNat,y2,y3,v0.a,v6j1,y4,y5]:List (List UInt8))++([([112,97,114,116]:List UInt8),y8,y9]:List (List UInt8))).length+([([108,97,115,116]:List UInt8)]:List (List UInt8)).length≤1000000000) (f_textual_Encode_j2 v0 ((([(([118,116,100,99]:List UInt8).take v0.kind.toNat).drop (v0.kind-1).toNat,y2,y3,v0.a,v6j1,y4,y5]:List (List UInt8))++([([112,97,114,116]:List UInt8),y8,y9]:List (List UInt8)))++([([108,97,115,116]:List UInt8)]:List (List UInt8))))) else f_textual_Encode_j2 v0 (([(([118,116,100,99]:List UInt8).take v0.kind.toNat).drop (v0.kind-1).toNat,y2,y3,v0.a,v6j1,y4,y5]:List (List UInt8))++([([112,97,114,116]:List UInt8),y8,y9]:List (List UInt8))))) else f_textual_Encode_j2 v0 ([(([118,116,100,99]:List UInt8).take v0.kind.toNat).drop (v0.kind-1).toNat,y2,y3,v0.a,v6j1,y4,y5]:List (List UInt8))))
def f_textual_Encode (v0:Record):Option ((List UInt8)×Int) :=
 (f_textual_check v0).bind fun y1=>if (y1 != 0)=true then some (([]:List UInt8),y1) else if (v0.b==([]:List UInt8))=true then (f_textual_Encode_j1 v0 ([45]:List UInt8)) else f_textual_Encode_j1 v0 v0.b
def f_validate_Check (v0r:Record):Option Int :=
 (f_textual_Encode v0r).bind fun y1=>some y1.2
def f_enrich_source_number (v0s:EnrichSource):Option (List UInt8) :=
 if v0s.record.inbound=true then some v0s.record.b else some v0s.record.a
def f_customer_place_int_j1 (v0list:List Int) (v1x:Int) (v5atj1:Int):Option (List Int) :=
 ck ((0:Int)≤v5atj1∧v5atj1≤(v0list.length:Int)) (ck ((v0list.take v5atj1.toNat).length≤1000000000) (ck ((v0list.take v5atj1.toNat).length+([v1x]:List Int).length≤1000000000) (ck ((0:Int)≤v5atj1∧v5atj1≤(v0list.length:Int)) (ck (((v0list.take v5atj1.toNat)++([v1x]:List Int)).length+(v0list.drop v5atj1.toNat).length≤1000000000) (some (((v0list.take v5atj1.toNat)++([v1x]:List Int))++(v0list.drop v5atj1.toNat)))))))
def f_customer_place_int_l1 (v0list:List Int) (v1x:Int) (v5atl1:Int):Option ((Int) ⊕ (List Int)) :=
 ck ((decide (v5atl1 < (v0list.length:Int)))=true→((0:Int)≤v5atl1∧v5atl1 < (v0list.length:Int))) (if ((decide (v5atl1 < (v0list.length:Int))) && (decide ((nth v0list v5atl1.toNat) < v1x)))=true then (ck (R64 (v5atl1+1)) (some (.inl (v5atl1+1)))) else (f_customer_place_int_j1 v0list v1x v5atl1).map (fun z=>.inr z))
def f_customer_place_int (v0list:List Int) (v1x:Int):Option (List Int) :=
 loop (fun s=>f_customer_place_int_l1 v0list v1x s) 0
def f_customer_place_string_j1 (v0list:List (List UInt8)) (v1x:List UInt8) (v5atj1:Int):Option (List (List UInt8)) :=
 ck ((0:Int)≤v5atj1∧v5atj1≤(v0list.length:Int)) (ck ((v0list.take v5atj1.toNat).length≤1000000000) (ck ((v0list.take v5atj1.toNat).length+([v1x]:List (List UInt8)).length≤1000000000) (ck ((0:Int)≤v5atj1∧v5atj1≤(v0list.length:Int)) (ck (((v0list.take v5atj1.toNat)++([v1x]:List (List UInt8))).length+(v0list.drop v5atj1.toNat).length≤1000000000) (some (((v0list.take v5atj1.toNat)++([v1x]:List (List UInt8)))++(v0list.drop v5atj1.toNat)))))))
def f_customer_place_string_l1 (v0list:List (List UInt8)) (v1x:List UInt8) (v5atl1:Int):Option ((Int) ⊕ (List (List UInt8))) :=
 ck ((decide (v5atl1 < (v0list.length:Int)))=true→((0:Int)≤v5atl1∧v5atl1 < (v0list.length:Int))) (if ((decide (v5atl1 < (v0list.length:Int))) && (strlss (nth v0list v5atl1.toNat) v1x))=true then (ck (R64 (v5atl1+1)) (some (.inl (v5atl1+1)))) else (f_customer_place_string_j1 v0list v1x v5atl1).map (fun z=>.inr z))
def f_customer_place_string (v0list:List (List UInt8)) (v1x:List UInt8):Option (List (List UInt8)) :=
 loop (fun s=>f_customer_place_string_l1 v0list v1x s) 0
def f_customer_remove_l1 (v0list:List (List UInt8)) (v1x:List UInt8) (v5outl1:List (List UInt8)) (v10l1:Int):Option ((List (List UInt8)×Int) ⊕ (List (List UInt8))) :=
 if (decide (v10l1 < (v0list.length:Int)))=true then (ck ((0:Int)≤v10l1∧v10l1 < (v0list.length:Int)) (if ((nth v0list v10l1.toNat) != v1x)=true then (ck (v5outl1.length+([nth v0list v10l1.toNat]:List (List UInt8)).length≤1000000000) (ck (R64 (v10l1+1)) (some (.inl (v5outl1++([nth v0list v10l1.toNat]:List (List UInt8)),v10l1+1))))) else ck (R64 (v10l1+1)) (some (.inl (v5outl1,v10l1+1))))) else some (.inr v5outl1)
def f_customer_remove (v0list:List (List UInt8)) (v1x:List UInt8):Option (List (List UInt8)) :=
 loop (fun s=>f_customer_remove_l1 v0list v1x s.1 s.2) (([]:List (List UInt8)),0)
def g_customer_begin:Option ((List (Int×Account))×(List (Int×Sub))×(List (Int×Bool))×(List ((List UInt8)×Int))×(List (Int×Int))) :=
 some (([]:List (Int×Account)),([]:List (Int×Sub)),([]:List (Int×Bool)),([]:List ((List UInt8)×Int)),([]:List (Int×Int)))
def g_customer_upto (v0events:List Event) (v1t:Int):Option ((List Event)×Int) :=
 some (v0events,v1t)
def g_customer_world_changed (v1:Sub) (v2:Event) (o0c5p:List Int) (o0c6p:List Int) (o1c0p:List (Int×Account)) (o2c0p:List (Int×Sub)) (o3c0p:List (Int×Bool)) (o4c0p:List ((List UInt8)×Int)) (o5c0p:List (Int×Int)):Option (Sub×(List ((List UInt8)×Int))) :=
 if (v2.kind==5)=true then ((f_customer_place_string v1.numbers v2.number).bind fun y1=>some ((⟨v1.id,v1.account,v1.since,v1.plan,y1,v1.products,v1.suspended,v1.family⟩:Sub),aset o4c0p v2.number v2.sub)) else if (v2.kind==6)=true then ((f_customer_remove v1.numbers v2.number).bind fun y2=>some ((⟨v1.id,v1.account,v1.since,v1.plan,y2,v1.products,v1.suspended,v1.family⟩:Sub),aerase o4c0p v2.number)) else if (v2.kind==7)=true then some ((⟨v1.id,v1.account,v1.since,v2.name,v1.numbers,v1.products,v1.suspended,v1.family⟩:Sub),o4c0p) else if (v2.kind==8)=true then ((f_customer_place_string v1.products v2.name).bind fun y3=>some ((⟨v1.id,v1.account,v1.since,v1.plan,v1.numbers,y3,v1.suspended,v1.family⟩:Sub),o4c0p)) else if (v2.kind==9)=true then ((f_customer_remove v1.products v2.name).bind fun y4=>some ((⟨v1.id,v1.account,v1.since,v1.plan,v1.numbers,y4,v1.suspended,v1.family⟩:Sub),o4c0p)) else if (v2.kind==10)=true then some ((⟨v1.id,v1.account,v1.since,v1.plan,v1.numbers,v1.products,true,v1.family⟩:Sub),o4c0p) else if (v2.kind==11)=true then some ((⟨v1.id,v1.account,v1.since,v1.plan,v1.numbers,v1.products,false,v1.family⟩:Sub),o4c0p) else if (v2.kind==12)=true then some ((⟨v1.id,v1.account,v1.since,v1.plan,v1.numbers,v1.products,v1.suspended,true⟩:Sub),o4c0p) else if (v2.kind==13)=true then some ((⟨v1.id,v1.account,v1.since,v1.plan,v1.numbers,v1.products,v1.suspended,false⟩:Sub),o4c0p) else some (v1,o4c0p)
def g_customer_world_apply_j1 (v1:Event) (o0c6p:List Int) (o1c0p:List (Int×Account)) (o2c0p:List (Int×Sub)) (o3c0p:List (Int×Bool)) (o4c0p:List ((List UInt8)×Int)) (o5c0p:List (Int×Int)) (o0c5j1:List Int):Option ((List Int)×(List Int)×(List (Int×Account))×(List (Int×Sub))×(List (Int×Bool))×(List ((List UInt8)×Int))×(List (Int×Int))) :=
 some (o0c5j1,o0c6p,aset o1c0p v1.account (⟨v1.account,v1.at_,v1.value,(v1.name==([112,114,101,112,97,105,100]:List UInt8)),false,([]:List Int)⟩:Account),o2c0p,o3c0p,o4c0p,o5c0p)
def g_customer_world_apply_j2 (v1:Event) (o0c5p:List Int) (o1c0p:List (Int×Account)) (o2c0p:List (Int×Sub)) (o3c0p:List (Int×Bool)) (o4c0p:List ((List UInt8)×Int)) (o5c0p:List (Int×Int)) (o0c6j2:List Int):Option ((List Int)×(List Int)×(List (Int×Account))×(List (Int×Sub))×(List (Int×Bool))×(List ((List UInt8)×Int))×(List (Int×Int))) :=
 ck (R64 (((alook o5c0p v1.account).getD 0)+1)) (some (o0c5p,o0c6j2,o1c0p,aset o2c0p v1.sub (⟨v1.sub,v1.account,v1.at_,v1.name,([]:List (List UInt8)),([]:List (List UInt8)),false,false⟩:Sub),aset o3c0p v1.sub true,o4c0p,aset o5c0p v1.account (((alook o5c0p v1.account).getD 0)+1)))
def g_customer_world_apply_j3 (v1:Event) (o0c5p:List Int) (o0c6p:List Int) (o1c0p:List (Int×Account)) (o2c0p:List (Int×Sub)) (o3c0p:List (Int×Bool)) (o5c0p:List (Int×Int)) (o4c0j3:List ((List UInt8)×Int)):Option ((List Int)×(List Int)×(List (Int×Account))×(List (Int×Sub))×(List (Int×Bool))×(List ((List UInt8)×Int))×(List (Int×Int))) :=
 ck (R64 (((alook o5c0p (((alook o2c0p v1.sub).getD (⟨0,0,0,([]:List UInt8),([]:List (List UInt8)),([]:List (List UInt8)),false,false⟩:Sub)).account)).getD 0) - 1)) (some (o0c5p,o0c6p,o1c0p,aerase o2c0p v1.sub,o3c0p,o4c0j3,aset o5c0p (((alook o2c0p v1.sub).getD (⟨0,0,0,([]:List UInt8),([]:List (List UInt8)),([]:List (List UInt8)),false,false⟩:Sub)).account) (((alook o5c0p (((alook o2c0p v1.sub).getD (⟨0,0,0,([]:List UInt8),([]:List (List UInt8)),([]:List (List UInt8)),false,false⟩:Sub)).account)).getD 0) - 1)))
def g_customer_world_apply_l1 (v1:Event) (o0c5p:List Int) (o0c6p:List Int) (o1c0p:List (Int×Account)) (o2c0p:List (Int×Sub)) (o3c0p:List (Int×Bool)) (o5c0p:List (Int×Int)) (v153l1:Int) (o4c0l1:List ((List UInt8)×Int)):Option ((Int×(List ((List UInt8)×Int))) ⊕ ((List Int)×(List Int)×(List (Int×Account))×(List (Int×Sub))×(List (Int×Bool))×(List ((List UInt8)×Int))×(List (Int×Int)))) :=
 if (decide (v153l1 < ((((alook o2c0p v1.sub).getD (⟨0,0,0,([]:List UInt8),([]:List (List UInt8)),([]:List (List UInt8)),false,false⟩:Sub)).numbers).length:Int)))=true then (ck ((0:Int)≤v153l1∧v153l1 < ((((alook o2c0p v1.sub).getD (⟨0,0,0,([]:List UInt8),([]:List (List UInt8)),([]:List (List UInt8)),false,false⟩:Sub)).numbers).length:Int)) (ck (R64 (v153l1+1)) (some (.inl (v153l1+1,aerase o4c0l1 (nth (((alook o2c0p v1.sub).getD (⟨0,0,0,([]:List UInt8),([]:List (List UInt8)),([]:List (List UInt8)),false,false⟩:Sub)).numbers) v153l1.toNat)))))) else (g_customer_world_apply_j3 v1 o0c5p o0c6p o1c0p o2c0p o3c0p o5c0p o4c0l1).map (fun z=>.inr z)
def g_customer_world_apply_j4 (v1:Event) (o0c5p:List Int) (o0c6p:List Int) (o1c0p:List (Int×Account)) (o2c0p:List (Int×Sub)) (o3c0p:List (Int×Bool)) (o4c0p:List ((List UInt8)×Int)) (o5c0p:List (Int×Int)) (v177j4:Bool):Option ((List Int)×(List Int)×(List (Int×Account))×(List (Int×Sub))×(List (Int×Bool))×(List ((List UInt8)×Int))×(List (Int×Int))) :=
 if v177j4=true then some (o0c5p,o0c6p,o1c0p,o2c0p,o3c0p,o4c0p,o5c0p) else if ((alook o2c0p v1.sub).isSome)=true then ((g_customer_world_changed ((alook o2c0p v1.sub).getD (⟨0,0,0,([]:List UInt8),([]:List (List UInt8)),([]:List (List UInt8)),false,false⟩:Sub)) v1 o0c5p o0c6p o1c0p o2c0p o3c0p o4c0p o5c0p).bind fun y3=>some (o0c5p,o0c6p,o1c0p,aset o2c0p v1.sub y3.1,o3c0p,y3.2,o5c0p)) else some (o0c5p,o0c6p,o1c0p,o2c0p,o3c0p,o4c0p,o5c0p)
def g_customer_world_apply (v1:Event) (o0c5p:List Int) (o0c6p:List Int) (o1c0p:List (Int×Account)) (o2c0p:List (Int×Sub)) (o3c0p:List (Int×Bool)) (o4c0p:List ((List UInt8)×Int)) (o5c0p:List (Int×Int)):Option ((List Int)×(List Int)×(List (Int×Account))×(List (Int×Sub))×(List (Int×Bool))×(List ((List UInt8)×Int))×(List (Int×Int))) :=
 if (v1.kind==1)=true then (if (!((alook o1c0p v1.account).isSome))=true then ((f_customer_place_int o0c5p v1.account).bind fun y1=>g_customer_world_apply_j1 v1 o0c6p o1c0p o2c0p o3c0p o4c0p o5c0p y1) else g_customer_world_apply_j1 v1 o0c6p o1c0p o2c0p o3c0p o4c0p o5c0p o0c5p) else if (v1.kind==2)=true then some (o0c5p,o0c6p,aset o1c0p v1.account (⟨((alook o1c0p v1.account).getD (⟨0,0,0,false,false,([]:List Int)⟩:Account)).id,((alook o1c0p v1.account).getD (⟨0,0,0,false,false,([]:List Int)⟩:Account)).since,((alook o1c0p v1.account).getD (⟨0,0,0,false,false,([]:List Int)⟩:Account)).anchor,((alook o1c0p v1.account).getD (⟨0,0,0,false,false,([]:List Int)⟩:Account)).prepaid,true,((alook o1c0p v1.account).getD (⟨0,0,0,false,false,([]:List Int)⟩:Account)).subs⟩:Account),o2c0p,o3c0p,o4c0p,o5c0p) else if (v1.kind==3)=true then (if (!((alook o3c0p v1.sub).getD false))=true then ((f_customer_place_int o0c6p v1.sub).bind fun y2=>g_customer_world_apply_j2 v1 o0c5p o1c0p o2c0p o3c0p o4c0p o5c0p y2) else g_customer_world_apply_j2 v1 o0c5p o1c0p o2c0p o3c0p o4c0p o5c0p o0c6p) else if (v1.kind==4)=true then (loop (fun s=>g_customer_world_apply_l1 v1 o0c5p o0c6p o1c0p o2c0p o3c0p o5c0p s.1 s.2) (0,o4c0p)) else if (v1.kind==14)=true then (g_customer_world_apply_j4 v1 o0c5p o0c6p o1c0p o2c0p o3c0p o4c0p o5c0p (v1.kind==14)) else g_customer_world_apply_j4 v1 o0c5p o0c6p o1c0p o2c0p o3c0p o4c0p o5c0p (v1.kind==15)
def f_customer_State_r (e:Event) (o1c5p:List Int) (o1c6p:List Int) (o2c0p:List (Int×Account)) (o3c0p:List (Int×Sub)) (o4c0p:List (Int×Bool)) (o5c0p:List ((List UInt8)×Int)) (o6c0p:List (Int×Int)):Option ((List Int)×(List Int)×(List (Int×Account))×(List (Int×Sub))×(List (Int×Bool))×(List ((List UInt8)×Int))×(List (Int×Int))) :=
 (g_customer_world_apply e o1c5p o1c6p o2c0p o3c0p o4c0p o5c0p o6c0p).bind fun y1=>some (y1.1,y1.2.1,y1.2.2.1,y1.2.2.2.1,y1.2.2.2.2.1,y1.2.2.2.2.2.1,y1.2.2.2.2.2.2)
def f_customer_upto_1_l1 (o8c0p:List Event) (o9c0p:Int) (v8l1:Int) (o1c5l1:List Int) (o1c6l1:List Int) (o2c0l1:List (Int×Account)) (o3c0l1:List (Int×Sub)) (o4c0l1:List (Int×Bool)) (o5c0l1:List ((List UInt8)×Int)) (o6c0l1:List (Int×Int)):Option ((Int×List Int×List Int×(List (Int×Account))×(List (Int×Sub))×(List (Int×Bool))×(List ((List UInt8)×Int))×(List (Int×Int))) ⊕ ((List Int)×(List Int)×(List (Int×Account))×(List (Int×Sub))×(List (Int×Bool))×(List ((List UInt8)×Int))×(List (Int×Int)))) :=
 if (decide (v8l1 < (o8c0p.length:Int)))=true then (ck ((0:Int)≤v8l1∧v8l1 < (o8c0p.length:Int)) (if (decide (((nth o8c0p v8l1.toNat).at_)≤o9c0p))=true then ((f_customer_State_r (nth o8c0p v8l1.toNat) o1c5l1 o1c6l1 o2c0l1 o3c0l1 o4c0l1 o5c0l1 o6c0l1).bind fun y1=>ck (R64 (v8l1+1)) (some (.inl (v8l1+1,y1.1,y1.2.1,y1.2.2.1,y1.2.2.2.1,y1.2.2.2.2.1,y1.2.2.2.2.2.1,y1.2.2.2.2.2.2)))) else ck (R64 (v8l1+1)) (some (.inl (v8l1+1,o1c5l1,o1c6l1,o2c0l1,o3c0l1,o4c0l1,o5c0l1,o6c0l1))))) else some (.inr (o1c5l1,o1c6l1,o2c0l1,o3c0l1,o4c0l1,o5c0l1,o6c0l1))
def f_customer_upto_1 (o8c0p:List Event) (o9c0p:Int) (o1c5p:List Int) (o1c6p:List Int) (o2c0p:List (Int×Account)) (o3c0p:List (Int×Sub)) (o4c0p:List (Int×Bool)) (o5c0p:List ((List UInt8)×Int)) (o6c0p:List (Int×Int)):Option ((List Int)×(List Int)×(List (Int×Account))×(List (Int×Sub))×(List (Int×Bool))×(List ((List UInt8)×Int))×(List (Int×Int))) :=
 loop (fun s=>f_customer_upto_1_l1 o8c0p o9c0p s.1 s.2.1 s.2.2.1 s.2.2.2.1 s.2.2.2.2.1 s.2.2.2.2.2.1 s.2.2.2.2.2.2.1 s.2.2.2.2.2.2.2) (0,o1c5p,o1c6p,o2c0p,o3c0p,o4c0p,o5c0p,o6c0p)
def g_customer_world_customers_l1 (o0c5p:List Int) (o1c0p:List (Int×Account)) (o7c1j1:List Sub) (o8c0j1:List (Int×(List Int))) (v55l1:Int) (o7c0l1:List Account):Option ((Int×List Account) ⊕ Customers) :=
 if (decide (v55l1 < (o0c5p.length:Int)))=true then (ck ((0:Int)≤v55l1∧v55l1 < (o0c5p.length:Int)) (ck (o7c0l1.length+([(⟨((alook o1c0p (nth o0c5p v55l1.toNat)).getD (⟨0,0,0,false,false,([]:List Int)⟩:Account)).id,((alook o1c0p (nth o0c5p v55l1.toNat)).getD (⟨0,0,0,false,false,([]:List Int)⟩:Account)).since,((alook o1c0p (nth o0c5p v55l1.toNat)).getD (⟨0,0,0,false,false,([]:List Int)⟩:Account)).anchor,((alook o1c0p (nth o0c5p v55l1.toNat)).getD (⟨0,0,0,false,false,([]:List Int)⟩:Account)).prepaid,((alook o1c0p (nth o0c5p v55l1.toNat)).getD (⟨0,0,0,false,false,([]:List Int)⟩:Account)).closed,(alook o8c0j1 (nth o0c5p v55l1.toNat)).getD ([]:List Int)⟩:Account)]:List Account).length≤1000000000) (ck (R64 (v55l1+1)) (some (.inl (v55l1+1,o7c0l1++([(⟨((alook o1c0p (nth o0c5p v55l1.toNat)).getD (⟨0,0,0,false,false,([]:List Int)⟩:Account)).id,((alook o1c0p (nth o0c5p v55l1.toNat)).getD (⟨0,0,0,false,false,([]:List Int)⟩:Account)).since,((alook o1c0p (nth o0c5p v55l1.toNat)).getD (⟨0,0,0,false,false,([]:List Int)⟩:Account)).anchor,((alook o1c0p (nth o0c5p v55l1.toNat)).getD (⟨0,0,0,false,false,([]:List Int)⟩:Account)).prepaid,((alook o1c0p (nth o0c5p v55l1.toNat)).getD (⟨0,0,0,false,false,([]:List Int)⟩:Account)).closed,(alook o8c0j1 (nth o0c5p v55l1.toNat)).getD ([]:List Int)⟩:Account)]:List Account))))))) else some (.inr (⟨o7c0l1,o7c1j1⟩:Customers))
def g_customer_world_customers_j1 (o0c5p:List Int) (o1c0p:List (Int×Account)) (o7c1j1:List Sub) (o8c0j1:List (Int×(List Int))):Option Customers :=
 loop (fun s=>g_customer_world_customers_l1 o0c5p o1c0p o7c1j1 o8c0j1 s.1 s.2) (0,([]:List Account))
def g_customer_world_customers_l2 (o0c5p:List Int) (o0c6p:List Int) (o1c0p:List (Int×Account)) (o2c0p:List (Int×Sub)) (v18l2:Int) (o7c1l2:List Sub) (o8c0l2:List (Int×(List Int))):Option ((Int×List Sub×(List (Int×(List Int)))) ⊕ Customers) :=
 if (decide (v18l2 < (o0c6p.length:Int)))=true then (ck ((0:Int)≤v18l2∧v18l2 < (o0c6p.length:Int)) (if (!((alook o2c0p (nth o0c6p v18l2.toNat)).isSome))=true then (ck (R64 (v18l2+1)) (some (.inl (v18l2+1,o7c1l2,o8c0l2)))) else ck (((alook o8c0l2 (((alook o2c0p (nth o0c6p v18l2.toNat)).getD (⟨0,0,0,([]:List UInt8),([]:List (List UInt8)),([]:List (List UInt8)),false,false⟩:Sub)).account)).getD ([]:List Int)).length+([nth o0c6p v18l2.toNat]:List Int).length≤1000000000) (ck (o7c1l2.length+([(alook o2c0p (nth o0c6p v18l2.toNat)).getD (⟨0,0,0,([]:List UInt8),([]:List (List UInt8)),([]:List (List UInt8)),false,false⟩:Sub)]:List Sub).length≤1000000000) (ck (R64 (v18l2+1)) (some (.inl (v18l2+1,o7c1l2++([(alook o2c0p (nth o0c6p v18l2.toNat)).getD (⟨0,0,0,([]:List UInt8),([]:List (List UInt8)),([]:List (List UInt8)),false,false⟩:Sub)]:List Sub),aset o8c0l2 (((alook o2c0p (nth o0c6p v18l2.toNat)).getD (⟨0,0,0,([]:List UInt8),([]:List (List UInt8)),([]:List (List UInt8)),false,false⟩:Sub)).account) (((alook o8c0l2 (((alook o2c0p (nth o0c6p v18l2.toNat)).getD (⟨0,0,0,([]:List UInt8),([]:List (List UInt8)),([]:List (List UInt8)),false,false⟩:Sub)).account)).getD ([]:List Int))++([nth o0c6p v18l2.toNat]:List Int))))))))) else (g_customer_world_customers_j1 o0c5p o1c0p o7c1l2 o8c0l2).map (fun z=>.inr z)
def g_customer_world_customers (o0c5p:List Int) (o0c6p:List Int) (o1c0p:List (Int×Account)) (o2c0p:List (Int×Sub)) (o3c0p:List (Int×Bool)) (o4c0p:List ((List UInt8)×Int)) (o5c0p:List (Int×Int)):Option Customers :=
 loop (fun s=>g_customer_world_customers_l2 o0c5p o0c6p o1c0p o2c0p s.1 s.2.1 s.2.2) (0,([]:List Sub),([]:List (Int×(List Int))))
def f_customer_State (v0events:List Event) (v1t:Int):Option Customers :=
 (g_customer_begin).bind fun y1=>(g_customer_upto v0events v1t).bind fun y2=>(f_customer_upto_1 y2.1 y2.2 ([]:List Int) ([]:List Int) y1.1 y1.2.1 y1.2.2.1 y1.2.2.2.1 y1.2.2.2.2).bind fun y3=>(g_customer_world_customers y3.1 y3.2.1 y3.2.2.1 y3.2.2.2.1 y3.2.2.2.2.1 y3.2.2.2.2.2.1 y3.2.2.2.2.2.2).bind fun y4=>some y4
def g_numbering_owners_l2 (y1:Customers) (v16l1:Int) (v23l2:Int) (o0c0l2:List ((List UInt8)×Int)):Option ((Int×(List ((List UInt8)×Int))) ⊕ ((Int×(List ((List UInt8)×Int))) ⊕ (List ((List UInt8)×Int)))) :=
 if (decide (v23l2 < (((nth y1.subs v16l1.toNat).numbers).length:Int)))=true then (ck ((0:Int)≤v23l2∧v23l2 < (((nth y1.subs v16l1.toNat).numbers).length:Int)) (ck (R64 (v23l2+1)) (some (.inl (v23l2+1,aset o0c0l2 (nth ((nth y1.subs v16l1.toNat).numbers) v23l2.toNat) ((nth y1.subs v16l1.toNat).id)))))) else ck (R64 (v16l1+1)) (some (.inr (.inl (v16l1+1,o0c0l2))))
def g_numbering_owners_l1 (y1:Customers) (v16l1:Int) (o0c0l1:List ((List UInt8)×Int)):Option ((Int×(List ((List UInt8)×Int))) ⊕ (List ((List UInt8)×Int))) :=
 if (decide (v16l1 < (y1.subs.length:Int)))=true then (ck ((0:Int)≤v16l1∧v16l1 < (y1.subs.length:Int)) (loop (fun s=>g_numbering_owners_l2 y1 v16l1 s.1 s.2) (0,o0c0l1))) else some (.inr o0c0l1)
def g_numbering_owners (v0events:List Event) (v1t:Int):Option (List ((List UInt8)×Int)) :=
 (f_customer_State v0events v1t).bind fun y1=>loop (fun s=>g_numbering_owners_l1 y1 s.1 s.2) (0,([]:List ((List UInt8)×Int)))
def f_numbering_Owner (v0events:List Event) (v1number:List UInt8) (v2t:Int):Option (Int×Bool) :=
 (g_numbering_owners v0events v2t).bind fun y1=>some ((alook y1 v1number).getD 0,(alook y1 v1number).isSome)
def f_customer_Sub_l1 (v1id:Int) (y1:Customers) (v15l1:Int):Option ((Int) ⊕ (Sub×Bool)) :=
 if (decide (v15l1 < (y1.subs.length:Int)))=true then (ck ((0:Int)≤v15l1∧v15l1 < (y1.subs.length:Int)) (if (((nth y1.subs v15l1.toNat).id)==v1id)=true then some (.inr (nth y1.subs v15l1.toNat,true)) else ck (R64 (v15l1+1)) (some (.inl (v15l1+1))))) else some (.inr ((⟨0,0,0,([]:List UInt8),([]:List (List UInt8)),([]:List (List UInt8)),false,false⟩:Sub),false))
def f_customer_Sub (v0events:List Event) (v1id:Int) (v2t:Int):Option (Sub×Bool) :=
 (f_customer_State v0events v2t).bind fun y1=>loop (fun s=>f_customer_Sub_l1 v1id y1 s) 0
def f_enrich_work_owner (v0w:EnrichWork):Option (Sub×Bool) :=
 (f_enrich_source_number v0w.source).bind fun y1=>(f_numbering_Owner v0w.events y1 v0w.source.record.start).bind fun y2=>if (!y2.2)=true then some ((⟨0,0,0,([]:List UInt8),([]:List (List UInt8)),([]:List (List UInt8)),false,false⟩:Sub),false) else (f_customer_Sub v0w.events y2.1 v0w.source.record.start).bind fun y3=>some (y3.1,y3.2)
def f_enrich_source_usage (v0s:EnrichSource) (v1id:Int) (v2sub:Sub):Option Usage :=
 some (⟨v1id,v0s.record.kind,v2sub.account,v2sub.id,v0s.record.a,v0s.record.b,v0s.record.start,v0s.record.units,v0s.record.trunk,v0s.record.inbound,v0s.record.source,v0s.record.serial⟩:Usage)
def f_enrich_Usage (v0events:List Event) (v1r:Record) (v2id:Int):Option (Usage×Int) :=
 (f_validate_Check v1r).bind fun y1=>if (y1 != 0)=true then some ((⟨0,0,0,0,([]:List UInt8),([]:List UInt8),0,0,0,false,0,0⟩:Usage),y1) else if (v1r.part != 0)=true then some ((⟨0,0,0,0,([]:List UInt8),([]:List UInt8),0,0,0,false,0,0⟩:Usage),8) else (f_enrich_work_owner (⟨(⟨v1r⟩:EnrichSource),v0events⟩:EnrichWork)).bind fun y2=>if (!y2.2)=true then some ((⟨0,0,0,0,([]:List UInt8),([]:List UInt8),0,0,0,false,0,0⟩:Usage),11) else if (y2.1.suspended && (!v1r.inbound))=true then some ((⟨0,0,0,0,([]:List UInt8),([]:List UInt8),0,0,0,false,0,0⟩:Usage),16) else (f_enrich_source_usage (⟨v1r⟩:EnrichSource) v2id y2.1).bind fun y3=>some (y3,0)
def f_enrich_Retail (v0u:Usage):Option Bool :=
 some (!v0u.inbound)
def f_w21_awake:Option Bool :=
 (f_w21_opened).bind fun y1=>(f_enrich_Usage y1 (⟨1,1,1,([52,57,49,53]:List UInt8),([51,51]:List UInt8),100,5,0,0,false,0,false⟩:Record) 9).bind fun y2=>(f_w21_opened).bind fun y3=>(f_enrich_Usage y3 (⟨1,1,1,([52,57,49,53]:List UInt8),([51,51]:List UInt8),99,5,0,0,false,0,false⟩:Record) 9).bind fun y4=>(f_w21_opened).bind fun y5=>(f_enrich_Usage y5 (⟨1,1,1,([52,57,49,53]:List UInt8),([51,51]:List UInt8),200,5,0,0,false,0,false⟩:Record) 9).bind fun y6=>(f_w21_opened).bind fun y7=>(f_enrich_Usage y7 (⟨1,2,1,([51,51]:List UInt8),([52,57,49,53]:List UInt8),200,5,0,0,false,5,true⟩:Record) 9).bind fun y8=>(gcall (((((((y2.2==0) && (y4.2==11)) && (y6.2==16)) && (y8.2==0)) && (y2.1.id==9)) && (y2.1.account==1)) && (y2.1.sub==2)) (f_enrich_Retail y2.1)).bind fun y9=>(gcall (((((((((y2.2==0) && (y4.2==11)) && (y6.2==16)) && (y8.2==0)) && (y2.1.id==9)) && (y2.1.account==1)) && (y2.1.sub==2)) && y9) && (y8.1.sub==2)) (f_enrich_Retail y8.1)).bind fun y10=>some ((((((((((y2.2==0) && (y4.2==11)) && (y6.2==16)) && (y8.2==0)) && (y2.1.id==9)) && (y2.1.account==1)) && (y2.1.sub==2)) && y9) && (y8.1.sub==2)) && (!y10))
def f_r17_Upto_l1 (v0events:List Event) (v1t:Int) (v6il1:Int) (o1c0l1:List Account) (o1c1l1:List Sub) (o1c2l1:List Int):Option ((Int×List Account×List Sub×List Int) ⊕ Billingref17Book) :=
 if (decide (v6il1 < (v0events.length:Int)))=true then (ck ((0:Int)≤v6il1∧v6il1 < (v0events.length:Int)) (if (decide (((nth v0events v6il1.toNat).at_)≤v1t))=true then (ck ((0:Int)≤v6il1∧v6il1 < (v0events.length:Int)) ((f_r17_Apply (⟨o1c0l1,o1c1l1,o1c2l1⟩:Billingref17Book) (nth v0events v6il1.toNat)).bind fun y1=>ck (R64 (v6il1+1)) (some (.inl (v6il1+1,y1.accounts,y1.subs,y1.ended))))) else ck (R64 (v6il1+1)) (some (.inl (v6il1+1,o1c0l1,o1c1l1,o1c2l1))))) else some (.inr (⟨o1c0l1,o1c1l1,o1c2l1⟩:Billingref17Book))
def f_r17_Upto (v0events:List Event) (v1t:Int):Option Billingref17Book :=
 loop (fun s=>f_r17_Upto_l1 v0events v1t s.1 s.2.1 s.2.2.1 s.2.2.2) (0,([]:List Account),([]:List Sub),([]:List Int))
def f_r17_State_j2 (y1:Billingref17Book) (v9l1:Int) (o2c0l1:List Account) (y2:Int) (o3c5j2:List Int):Option ((Int×List Account) ⊕ Customers) :=
 ck (o2c0l1.length+([(⟨(nth y1.accounts y2.toNat).id,(nth y1.accounts y2.toNat).since,(nth y1.accounts y2.toNat).anchor,(nth y1.accounts y2.toNat).prepaid,(nth y1.accounts y2.toNat).closed,o3c5j2⟩:Account)]:List Account).length≤1000000000) (ck (R64 (v9l1+1)) (some (.inl (v9l1+1,o2c0l1++([(⟨(nth y1.accounts y2.toNat).id,(nth y1.accounts y2.toNat).since,(nth y1.accounts y2.toNat).anchor,(nth y1.accounts y2.toNat).prepaid,(nth y1.accounts y2.toNat).closed,o3c5j2⟩:Account)]:List Account)))))
def f_r17_State_l2 (y1:Billingref17Book) (o2c1j1:List Sub) (v9l1:Int) (o2c0l1:List Account) (y2:Int) (v12l2:Int) (o3c5l2:List Int):Option ((Int×List Int) ⊕ ((Int×List Account) ⊕ Customers)) :=
 if (decide (v12l2 < (o2c1j1.length:Int)))=true then (ck ((0:Int)≤v12l2∧v12l2 < (o2c1j1.length:Int)) (if (((nth o2c1j1 v12l2.toNat).account)==v9l1)=true then (ck ((0:Int)≤v12l2∧v12l2 < (o2c1j1.length:Int)) (ck (o3c5l2.length+([(nth o2c1j1 v12l2.toNat).id]:List Int).length≤1000000000) (ck (R64 (v12l2+1)) (some (.inl (v12l2+1,o3c5l2++([(nth o2c1j1 v12l2.toNat).id]:List Int))))))) else ck (R64 (v12l2+1)) (some (.inl (v12l2+1,o3c5l2))))) else (f_r17_State_j2 y1 v9l1 o2c0l1 y2 o3c5l2).map (fun z=>.inr z)
def f_r17_State_l1 (y1:Billingref17Book) (o2c1j1:List Sub) (v9l1:Int) (o2c0l1:List Account):Option ((Int×List Account) ⊕ Customers) :=
 if ((decide (v9l1≤9999)) && (decide ((o2c0l1.length:Int) < (y1.accounts.length:Int))))=true then ((f_r17_account y1 v9l1).bind fun y2=>if (decide (y2 < 0))=true then (ck (R64 (v9l1+1)) (some (.inl (v9l1+1,o2c0l1)))) else ck ((0:Int)≤y2∧y2 < (y1.accounts.length:Int)) (loop (fun s=>f_r17_State_l2 y1 o2c1j1 v9l1 o2c0l1 y2 s.1 s.2) (0,([]:List Int)))) else some (.inr (⟨o2c0l1,o2c1j1⟩:Customers))
def f_r17_State_j1 (y1:Billingref17Book) (o2c1j1:List Sub):Option Customers :=
 loop (fun s=>f_r17_State_l1 y1 o2c1j1 s.1 s.2) (1,([]:List Account))
def f_r17_State_l3 (y1:Billingref17Book) (v7l3:Int) (o2c1l3:List Sub):Option ((Int×List Sub) ⊕ Customers) :=
 ck ((decide (v7l3≤9999))=true→(R64 ((y1.subs.length:Int) - (y1.ended.length:Int)))) (if ((decide (v7l3≤9999)) && (decide ((o2c1l3.length:Int) < ((y1.subs.length:Int) - (y1.ended.length:Int)))))=true then ((f_r17_sub y1 v7l3).bind fun y3=>(gcall (decide (y3≥0)) (f_r17_ended y1 v7l3)).bind fun y4=>if ((decide (y3≥0)) && (!y4))=true then (ck ((0:Int)≤y3∧y3 < (y1.subs.length:Int)) (ck (o2c1l3.length+([nth y1.subs y3.toNat]:List Sub).length≤1000000000) (ck (R64 (v7l3+1)) (some (.inl (v7l3+1,o2c1l3++([nth y1.subs y3.toNat]:List Sub))))))) else ck (R64 (v7l3+1)) (some (.inl (v7l3+1,o2c1l3)))) else (f_r17_State_j1 y1 o2c1l3).map (fun z=>.inr z))
def f_r17_State (v0:List Event) (v1:Int):Option Customers :=
 (f_r17_Upto v0 v1).bind fun y1=>loop (fun s=>f_r17_State_l3 y1 s.1 s.2) (1,([]:List Sub))
def f_r18_Owner_l1 (v1number:List UInt8) (y1:Customers) (v9il1:Int):Option ((Int) ⊕ (Int×Bool)) :=
 if (decide (v9il1 < (y1.subs.length:Int)))=true then (ck ((0:Int)≤v9il1∧v9il1 < (y1.subs.length:Int)) ((f_r17_Has ((nth y1.subs v9il1.toNat).numbers) v1number).bind fun y2=>if y2=true then (ck ((0:Int)≤v9il1∧v9il1 < (y1.subs.length:Int)) (some (.inr ((nth y1.subs v9il1.toNat).id,true)))) else ck (R64 (v9il1+1)) (some (.inl (v9il1+1))))) else some (.inr (0,false))
def f_r18_Owner (v0events:List Event) (v1number:List UInt8) (v2t:Int):Option (Int×Bool) :=
 (f_r17_State v0events v2t).bind fun y1=>loop (fun s=>f_r18_Owner_l1 v1number y1 s) 0
def f_r17_Sub (v0events:List Event) (v1id:Int) (v2t:Int):Option (Sub×Bool) :=
 (f_r17_Upto v0events v2t).bind fun y1=>(f_r17_sub y1 v1id).bind fun y2=>(gcall (!(decide (y2 < 0))) (f_r17_ended y1 v1id)).bind fun y3=>if ((decide (y2 < 0)) || y3)=true then some ((⟨0,0,0,([]:List UInt8),([]:List (List UInt8)),([]:List (List UInt8)),false,false⟩:Sub),false) else ck ((0:Int)≤y2∧y2 < (y1.subs.length:Int)) (some (nth y1.subs y2.toNat,true))
def f_r21_Record (v0u:Usage):Option Record :=
 some (⟨v0u.source,v0u.serial,v0u.kind,v0u.a,v0u.b,v0u.start,v0u.units,0,0,false,v0u.trunk,v0u.inbound⟩:Record)
def f_w21_EnrichFields_j1 (v0:List Event) (v1:Record) (v2:Int) (y4:Usage×Int) (v9j1:List UInt8):Option Bool :=
 (f_r18_Owner v0 v9j1 v1.start).bind fun y6=>(f_r17_Sub v0 y4.1.sub v1.start).bind fun y7=>(gcall ((((y6.2 && y7.2) && (y6.1==y4.1.sub)) && (y7.1.account==y4.1.account)) && (y4.1.id==v2)) (f_r21_Record y4.1)).bind fun y8=>(gcall (((((y6.2 && y7.2) && (y6.1==y4.1.sub)) && (y7.1.account==y4.1.account)) && (y4.1.id==v2)) && (eqVs (Record.vals y8) (Record.vals v1))) (f_w21_awake)).bind fun y9=>some ((((((y6.2 && y7.2) && (y6.1==y4.1.sub)) && (y7.1.account==y4.1.account)) && (y4.1.id==v2)) && (eqVs (Record.vals y8) (Record.vals v1))) && y9)
def f_w21_EnrichFields (v0:List Event) (v1:Record) (v2:Int):Option Bool :=
 (f_r21_Few v0).bind fun y1=>(gcall (!(!y1)) (f_w21_short v1)).bind fun y2=>if ((!y1) || (!y2))=true then ((f_w21_awake).bind fun y3=>some y3) else (f_enrich_Usage v0 v1 v2).bind fun y4=>if (y4.2 != 0)=true then ((gcall (eqVs (Usage.vals y4.1) (Usage.vals (⟨0,0,0,0,([]:List UInt8),([]:List UInt8),0,0,0,false,0,0⟩:Usage))) (f_w21_awake)).bind fun y5=>some ((eqVs (Usage.vals y4.1) (Usage.vals (⟨0,0,0,0,([]:List UInt8),([]:List UInt8),0,0,0,false,0,0⟩:Usage))) && y5)) else if v1.inbound=true then (f_w21_EnrichFields_j1 v0 v1 v2 y4 v1.b) else f_w21_EnrichFields_j1 v0 v1 v2 y4 v1.a
end Go.Proofs.YtnjdcednocmcnaaDoor
namespace Go.Abs
open Go.RowKit
theorem DArgs.one {lim:Nat→Nat} {w:World} {d:D} {vs:Array Value} (h:DArgs lim w [d] vs):∃ v,vs=#[v]∧DRep lim w d v:=by
 obtain ⟨h1,h2⟩:=h
 match vs,h1 with
 | ⟨[v]⟩,_=>exact ⟨v,rfl,h2 0 d v rfl rfl⟩
theorem DArgs.two {lim:Nat→Nat} {w:World} {d e:D} {vs:Array Value} (h:DArgs lim w [d,e] vs):∃ v u,vs=#[v,u]∧DRep lim w d v∧DRep lim w e u:=by
 obtain ⟨h1,h2⟩:=h
 match vs,h1 with
 | ⟨[v,u]⟩,_=>exact ⟨v,u,rfl,h2 0 d v rfl rfl,h2 1 e u rfl rfl⟩
theorem below_grow (w:World) (k:Nat) (os:Array Obj):Below w.heap.size w (Go.Sort.grow (w.drewN k) os) :=
 ⟨rfl,rfl,rfl,by simp [Go.Sort.grow],fun b hb=>by
  show ((w.drewN k).heap++os)[b]?=_
  rw [Array.getElem?_append_left (show b < (w.drewN k).heap.size from hb)]
  rfl⟩
theorem ACall.lib {P:Program} {f:FuncId} {args:List D} {u:Value}
  (h:∀ lim w vs,Globs w.heap.size w→DArgs lim w args vs→Calls P f vs w fun e w'=>e=.returned u∧Below w.heap.size w w'):ACall P f args (·=.ex u):=by
 intro lim w vs hg ha
 refine (h lim w vs hg ha).mono ?_
 rintro e w' ⟨rfl,hb⟩
 exact ⟨u,.ex u,lim,rfl,rfl,.ex u,⟨hb.size,fun _ _=>Nat.le_refl _,fun b off hb' _=>hb.cell (p:=⟨b,off,none⟩) hb'⟩,hb,fun _ _=>rfl⟩
theorem strs_cells {lim:Nat→Nat} {w:World} {xs:List (List UInt8)} {v:Value} (h:DRep lim w (.sl 1 (xs.map rS)) v) :
  (∃ A c,v=.slice A 0 c∧xs=[])∨∃ b off c,v=.slice (some ⟨b,off,none⟩) xs.length c∧xs.length≤c∧b < w.heap.size∧∀ (j:Nat) x,xs[j]?=some x→w.cell? ⟨b,off+j,none⟩=some (.string ⟨x.toArray⟩):=by
 generalize hr:xs.map rS=rows at h
 cases h with
 | nil _ A =>
  have:xs=[]:=by simpa using hr
  exact .inl ⟨A,0,rfl,this⟩
 | sl _ _ b off c hc hrow hx hcell =>
  subst hr
  rw [List.length_map] at *
  by_cases h0:xs=[]
  ·subst h0; exact .inl ⟨_,c,rfl,rfl⟩
  ·refine .inr ⟨b,off,c,rfl,hc,?_,fun j x hj=>?_⟩
   ·have hl:0 < xs.length:=List.length_pos_iff.2 h0
    obtain ⟨_,u,hu,_⟩:=hx 0 (by omega)
    exact World.block_lt_of_cell? w _ hu
   ·have hjl:=(List.getElem?_eq_some_iff.1 hj).1
    obtain ⟨_,u,hu,_⟩:=hx j (by omega)
    have:=hcell j 0 (rS x) (.ex (.string ⟨x.toArray⟩)) u (by rw [List.getElem?_map,hj]; rfl) rfl (by rw [Nat.mul_one,Nat.add_zero]; exact hu)
    rw [hu,drep_ex this]
end Go.Abs
namespace Go.Proofs.YtnjdcednocmcnaaDoor
open Go.Shelf
def Tryd.lays156_ren:Go.Shelf.Ren:=⟨fun | 156=>44 | 165=>59 | 166=>60 | 169=>61 | 240=>68 | 241=>69 | 276=>77 | 277=>78 | n=>n,fun | 31=>36 | 9=>9 | 3=>3 | 4=>4 | 0=>0 | 20=>20 | 72=>96 | 76=>100 | 70=>93 | 37=>94 | 75=>99 | 127=>110 | 164=>126 | 5=>5 | 80=>75 | n=>n,fun | n=>n⟩
theorem Tryd.lays156:Go.Proofs.Lays.n156 Tryd.prog Tryd.lays156_ren:={
 mixed:=by kernel_rfl
 f156:=Tryd.func44.trans (congrArg some (by kernel_rfl))
 f165:=Tryd.func59.trans (congrArg some (by kernel_rfl))
 f166:=Tryd.func60.trans (congrArg some (by kernel_rfl))
 f169:=Tryd.func61.trans (congrArg some (by kernel_rfl))
 f240:=Tryd.func68.trans (congrArg some (by kernel_rfl))
 f241:=Tryd.func69.trans (congrArg some (by kernel_rfl))
 f276:=Tryd.func77.trans (congrArg some (by kernel_rfl))
 f277:=Tryd.func78.trans (congrArg some (by kernel_rfl))
 t0:=Tryd.underlying0
 a0:=Tryd.isAgg0
 z0:=Tryd.sizeOf0
 v0:=Tryd.zeroValue0
 t3:=Tryd.underlying3
 a3:=Tryd.isAgg3
 z3:=Tryd.sizeOf3
 v3:=Tryd.zeroValue3
 t4:=Tryd.underlying4
 a4:=Tryd.isAgg4
 z4:=Tryd.sizeOf4
 v4:=Tryd.zeroValue4
 t9:=Tryd.underlying9
 a9:=Tryd.isAgg9
 z9:=Tryd.sizeOf9
 v9:=Tryd.zeroValue9
 t20:=Tryd.underlying20
 a20:=Tryd.isAgg20
 z20:=Tryd.sizeOf20
 v20:=Tryd.zeroValue20
 t31:=Tryd.underlying36
 a31:=Tryd.isAgg36
 z31:=Tryd.sizeOf36
 v31:=Tryd.zeroValue36
 t37:=Tryd.underlying94
 a37:=Tryd.isAgg94
 z37:=Tryd.sizeOf94
 v37:=Tryd.zeroValue94
 t70:=Tryd.underlying93
 a70:=Tryd.isAgg93
 z70:=Tryd.sizeOf93
 v70:=Tryd.zeroValue93
 t72:=Tryd.underlying96
 a72:=Tryd.isAgg96
 z72:=Tryd.sizeOf96
 v72:=Tryd.zeroValue96
 t75:=Tryd.underlying99
 a75:=Tryd.isAgg99
 z75:=Tryd.sizeOf99
 v75:=Tryd.zeroValue99
 t76:=Tryd.underlying100
 a76:=Tryd.isAgg100
 z76:=Tryd.sizeOf100
 v76:=Tryd.zeroValue100
 t127:=Tryd.underlying110
 a127:=Tryd.isAgg110
 z127:=Tryd.sizeOf110
 v127:=Tryd.zeroValue110
 t164:=Tryd.underlying126
 a164:=Tryd.isAgg126
 z164:=Tryd.sizeOf126
 v164:=Tryd.zeroValue126 }
theorem Tryd.Builder_Extra_156:Builder.Extra Tryd.prog Tryd.lays156_ren:={
 sizeBuilder:=by kernel_rfl
 liesBuilder:=by kernel_rfl
 t5:=Tryd.underlying5
 a5:=Tryd.isAgg5
 z5:=Tryd.sizeOf5
 v5:=Tryd.zeroValue5
 infoByte:=by kernel_rfl
 cellsByte:=by kernel_rfl
 sizeByte:=by kernel_rfl
 neB5:=by decide }
open Go.RowKit in
theorem Tryd.strings_Join_none (a:Option Addr) (c:Nat) (sep:ByteArray) (w:World) :
  Calls Tryd.prog 44 #[.slice a 0 c,.string sep] w fun e w'=>e=.returned (.string ⟨#[]⟩)∧w'=w:=Any.strings_Join_none Tryd.lays156 Tryd.Builder_Extra_156 a c sep w
open Go.RowKit in
theorem Tryd.strings_Join (bk o c:Nat) (xs:List ByteArray) (sep:ByteArray) (w:World) (hcells:∀ (j:Nat) x,xs[j]?=some x→w.cell? ⟨bk,o+j,none⟩=some (.string x)) (hbk:bk < w.heap.size) (hN:xs.length≤140737488355328) (hcap:xs.length≤c) (hlen:(Lib.join (xs.map (·.data.toList)) sep.data.toList).length≤140737488355328) :
  Calls Tryd.prog 44 #[.slice (some ⟨bk,o,none⟩) xs.length c,.string sep] w fun e w'=>e=.returned (.string ⟨(Lib.join (xs.map (·.data.toList)) sep.data.toList).toArray⟩)∧Below w.heap.size w w':=Any.strings_Join Tryd.lays156 Tryd.Builder_Extra_156 bk o c xs sep w hcells hbk hN hcap hlen
def Tryd.laysM171_ren:Go.Shelf.Ren:=⟨fun | 171=>43 | 243=>58 | 246=>67 | 283=>73 | 284=>74 | 285=>75 | 286=>76 | 129=>82 | 317=>81 | 318=>83 | 319=>84 | 320=>85 | 337=>86 | 338=>87 | n=>n,fun | 3=>3 | 9=>9 | 2=>2 | 4=>4 | 171=>120 | 0=>0 | 53=>121 | 37=>94 | 5=>5 | 173=>124 | 212=>131 | 51=>132 | 20=>20 | 213=>133 | 46=>134 | 232=>137 | 233=>138 | n=>n,fun | 17=>0 | 18=>2 | 19=>3 | n=>n⟩
theorem Tryd.laysM171:Go.Proofs.LaysM.n171 Tryd.prog Tryd.laysM171_ren:={
 mixed:=by kernel_rfl
 f129:=Tryd.func82.trans (congrArg some (by kernel_rfl))
 f171:=Tryd.func43.trans (congrArg some (by kernel_rfl))
 f243:=Tryd.func58.trans (congrArg some (by kernel_rfl))
 f246:=Tryd.func67.trans (congrArg some (by kernel_rfl))
 f283:=Tryd.func73.trans (congrArg some (by kernel_rfl))
 f284:=Tryd.func74.trans (congrArg some (by kernel_rfl))
 f285:=Tryd.func75.trans (congrArg some (by kernel_rfl))
 f286:=Tryd.func76.trans (congrArg some (by kernel_rfl))
 f317:=Tryd.func81.trans (congrArg some (by kernel_rfl))
 f318:=Tryd.func83.trans (congrArg some (by kernel_rfl))
 f319:=Tryd.func84.trans (congrArg some (by kernel_rfl))
 f320:=Tryd.func85.trans (congrArg some (by kernel_rfl))
 f337:=Tryd.func86.trans (congrArg some (by kernel_rfl))
 f338:=Tryd.func87.trans (congrArg some (by kernel_rfl))
 t0:=Tryd.underlying0
 a0:=Tryd.isAgg0
 z0:=Tryd.sizeOf0
 v0:=Tryd.zeroValue0
 t2:=Tryd.underlying2
 a2:=Tryd.isAgg2
 z2:=Tryd.sizeOf2
 v2:=Tryd.zeroValue2
 t3:=Tryd.underlying3
 a3:=Tryd.isAgg3
 z3:=Tryd.sizeOf3
 v3:=Tryd.zeroValue3
 t4:=Tryd.underlying4
 a4:=Tryd.isAgg4
 z4:=Tryd.sizeOf4
 v4:=Tryd.zeroValue4
 t5:=Tryd.underlying5
 a5:=Tryd.isAgg5
 z5:=Tryd.sizeOf5
 v5:=Tryd.zeroValue5
 t9:=Tryd.underlying9
 a9:=Tryd.isAgg9
 z9:=Tryd.sizeOf9
 v9:=Tryd.zeroValue9
 t20:=Tryd.underlying20
 a20:=Tryd.isAgg20
 z20:=Tryd.sizeOf20
 v20:=Tryd.zeroValue20
 t37:=Tryd.underlying94
 a37:=Tryd.isAgg94
 z37:=Tryd.sizeOf94
 v37:=Tryd.zeroValue94
 t46:=Tryd.underlying134
 a46:=Tryd.isAgg134
 z46:=Tryd.sizeOf134
 v46:=Tryd.zeroValue134
 t51:=Tryd.underlying132
 a51:=Tryd.isAgg132
 z51:=Tryd.sizeOf132
 v51:=Tryd.zeroValue132
 t53:=Tryd.underlying121
 a53:=Tryd.isAgg121
 z53:=Tryd.sizeOf121
 v53:=Tryd.zeroValue121
 t171:=Tryd.underlying120
 a171:=Tryd.isAgg120
 z171:=Tryd.sizeOf120
 v171:=Tryd.zeroValue120
 t173:=Tryd.underlying124
 a173:=Tryd.isAgg124
 z173:=Tryd.sizeOf124
 v173:=Tryd.zeroValue124
 t212:=Tryd.underlying131
 a212:=Tryd.isAgg131
 z212:=Tryd.sizeOf131
 v212:=Tryd.zeroValue131
 t213:=Tryd.underlying133
 a213:=Tryd.isAgg133
 z213:=Tryd.sizeOf133
 t232:=Tryd.underlying137
 a232:=Tryd.isAgg137
 z232:=Tryd.sizeOf137
 v232:=Tryd.zeroValue137
 t233:=Tryd.underlying138
 a233:=Tryd.isAgg138
 z233:=Tryd.sizeOf138
 v233:=Tryd.zeroValue138
 g17:=by kernel_rfl
 g18:=by kernel_rfl
 g19:=by kernel_rfl
 i0:=by kernel_rfl
 i2:=by kernel_rfl
 i3:=by kernel_rfl
 i4:=by kernel_rfl
 i5:=by kernel_rfl
 i9:=by kernel_rfl
 i20:=by kernel_rfl
 i37:=by kernel_rfl
 i46:=by kernel_rfl
 i51:=by kernel_rfl
 i53:=by kernel_rfl
 i171:=by kernel_rfl
 i173:=by kernel_rfl
 i212:=by kernel_rfl
 i232:=by kernel_rfl
 i233:=by kernel_rfl
 m17:=by kernel_rfl
 m18:=by kernel_rfl
 m19:=by kernel_rfl }
open Go.RowKit Go.Sort Go.Lib in
theorem Tryd.strconv_Itoa (n:Int) (h0:-9223372036854775808≤n) (h1:n≤9223372036854775807) (w:World) (htab:Lib.TabIs Tryd.prog w "internal/strconv.uint64pow10" .u64 Lib.pow10Tab) :
  Calls Tryd.prog 43 #[.int .i64 n] w fun e w'=>e=.returned (.string ⟨(Lib.itoa n).toArray⟩)∧∃ k os,w'=grow (w.drewN k) os:=Any.strconv_Itoa Tryd.laysM171 n h0 h1 w htab
end Go.Proofs.YtnjdcednocmcnaaDoor
namespace Go.Proofs.YtnjdcednocmcnaaDoor
open Go.RowKit Go.Abs
theorem tab_is {w:World} (h:Globs w.heap.size w):Go.Lib.TabIs Tryd.prog w "internal/strconv.uint64pow10" .u64 Go.Lib.pow10Tab:=by
 obtain ⟨_,ty,fr,h2⟩:=h.1 (0,(Go.Lib.pow10Tab.map fun z=>Value.int .u64 z).toArray) (by simp [GL])
 have hn:Tryd.prog.globalNamed "internal/strconv.uint64pow10" = some 0:=by kernel_rfl
 unfold Go.Lib.TabIs World.var?
 rw [hn]
 simp only [Option.bind_some]
 simp only at h2
 rw [h2]
theorem c_x_Itoa {n:Int} {r:List UInt8} (H:x_Itoa n=some r):ACall Tryd.prog 43 [cI n] (·=cS r):=by
 obtain ⟨h,H⟩:=ck_some H; cases H
 refine ACall.lib fun lim w vs hg ha=>?_
 obtain ⟨v,rfl,hv⟩:=ha.one
 rw [drep_ex hv]
 refine (Tryd.strconv_Itoa n h.1 h.2 w (tab_is hg)).mono ?_
 rintro e w' ⟨rfl,k,os,rfl⟩
 exact ⟨rfl,below_grow w k os⟩
theorem c_x_Join {xs:List (List UInt8)} {sep r:List UInt8} (H:x_Join xs sep=some r):ACall Tryd.prog 44 [slOf 1 rS xs,cS sep] (·=cS r):=by
 obtain ⟨h,H⟩:=ck_some H; cases H
 refine ACall.lib fun lim w vs hg ha=>?_
 obtain ⟨v,u,rfl,hv,hu⟩:=ha.two
 rw [drep_ex hu]
 rcases strs_cells hv with ⟨A,c,rfl,rfl⟩ | ⟨b,off,c,rfl,hc,hb,hcell⟩
 ·exact (Tryd.strings_Join_none A c ⟨sep.toArray⟩ w).mono fun e w' ⟨he,hw⟩=>⟨he,hw▸Below.refl _ _⟩
 ·have hm:(xs.map fun x=>(⟨x.toArray⟩:ByteArray)).map (·.data.toList)=xs:=by simp [Function.comp_def]
  have:=Tryd.strings_Join b off c (xs.map fun x=>(⟨x.toArray⟩:ByteArray)) ⟨sep.toArray⟩ w (fun j x hj=>by
   rw [List.getElem?_map] at hj
   obtain ⟨y,hy,rfl⟩:=Option.map_eq_some_iff.1 hj
   exact hcell j y hy) hb (by simp; omega) (by simpa using hc) (by rw [hm]; simp; omega)
  rw [hm,List.length_map] at this
  exact this
end Go.Proofs.YtnjdcednocmcnaaDoor
set_option maxRecDepth 100000
set_option maxHeartbeats 1000000
namespace Go.Proofs.YtnjdcednocmcnaaDoor
open Go.RowKit Go.Abs Go.Proofs.Tryd
theorem c_f_r17_uses {v0kind:Int} {r:(List Bool)} (H:f_r17_uses v0kind=some r):ACall prog 38 [cI v0kind] (·=.agg [cB (nth r 0),cB (nth r 1),cB (nth r 2),cB (nth r 3),cB (nth r 4)]):=by
 obtain ⟨i4,hi4,hz4,hs4,hb4⟩:=in_4
 obtain ⟨i79,hi79,hz79,hs79,hb79⟩:=in_79
 refine ACall.enter' func38 rfl ntmps38 rfl fun S hS=>?_
 unfold f_r17_uses at H
 refine .A 15 [.r 0] rfl trivial ?_
 refine .ite H rfl (fun H=>?_) (fun H=>?_)
 ·refine .A 5 [.d (.agg [cB true,cB false,cB false,cB true,cB true])] rfl (OpQ.g (q_buildArr underlying79 hi79 hz79 hi4 hs4 rfl rfl)) ?_
  refine .R func38 results38 rfl ?_
  cases H
  exact .m rfl (.rfl' _)
 ·refine .A 5 [] rfl trivial ?_
  refine .ite H rfl (fun H=>?_) (fun H=>?_)
  ·refine .A 5 [.d (.agg [cB true,cB false,cB false,cB false,cB false])] rfl (OpQ.g (q_buildArr underlying79 hi79 hz79 hi4 hs4 rfl rfl)) ?_
   refine .R func38 results38 rfl ?_
   cases H
   exact .m rfl (.rfl' _)
  ·refine .A 5 [] rfl trivial ?_
   refine .ite H rfl (fun H=>?_) (fun H=>?_)
   ·refine .A 5 [.d (.agg [cB true,cB true,cB false,cB true,cB false])] rfl (OpQ.g (q_buildArr underlying79 hi79 hz79 hi4 hs4 rfl rfl)) ?_
    refine .R func38 results38 rfl ?_
    cases H
    exact .m rfl (.rfl' _)
   ·refine .seqJoin (ι:=Bool) (fun v13j1=>[(2,.ref 0 0),(3,.d (cI v0kind)),(13,.d (cB v13j1))]) (fun v13j1=>⟨[.row 79 [.d (cB false),.d (cB false),.d (cB false),.d (cB false),.d (cB false)]],[]⟩) (fun s=>f_r17_uses_j1 v0kind s=some r) ?_ ?_
    ·rintro v13j1 H
     replace H:f_r17_uses_j1 v0kind v13j1=some r:=H
     unfold f_r17_uses_j1 at H
     refine .ite H rfl (fun H=>?_) (fun H=>?_)
     ·refine .A 5 [.d (.agg [cB false,cB true,cB true,cB false,cB false])] rfl (OpQ.g (q_buildArr underlying79 hi79 hz79 hi4 hs4 rfl rfl)) ?_
      refine .R func38 results38 rfl ?_
      cases H
      exact .m rfl (.rfl' _)
     ·refine .seqJoin (ι:=Bool) (fun v17j2=>[(2,.ref 0 0),(3,.d (cI v0kind)),(17,.d (cB v17j2))]) (fun v17j2=>⟨[.row 79 [.d (cB false),.d (cB false),.d (cB false),.d (cB false),.d (cB false)]],[]⟩) (fun s=>f_r17_uses_j2 v0kind s=some r) ?_ ?_
      ·rintro v17j2 H
       replace H:f_r17_uses_j2 v0kind v17j2=some r:=H
       unfold f_r17_uses_j2 at H
       refine .ite H rfl (fun H=>?_) (fun H=>?_)
       ·refine .A 5 [.d (.agg [cB false,cB true,cB false,cB true,cB false])] rfl (OpQ.g (q_buildArr underlying79 hi79 hz79 hi4 hs4 rfl rfl)) ?_
        refine .R func38 results38 rfl ?_
        cases H
        exact .m rfl (.rfl' _)
       ·refine .seqJoin (ι:=Bool) (fun v22j3=>[(2,.ref 0 0),(22,.d (cB v22j3))]) (fun v22j3=>⟨[.row 79 [.d (cB false),.d (cB false),.d (cB false),.d (cB false),.d (cB false)]],[]⟩) (fun s=>f_r17_uses_j3 s=some r) ?_ ?_
        ·rintro v22j3 H
         replace H:f_r17_uses_j3 v22j3=some r:=H
         unfold f_r17_uses_j3 at H
         refine .ite H rfl (fun H=>?_) (fun H=>?_)
         ·refine .A 5 [.d (.agg [cB true,cB false,cB false,cB false,cB true])] rfl (OpQ.g (q_buildArr underlying79 hi79 hz79 hi4 hs4 rfl rfl)) ?_
          refine .R func38 results38 rfl ?_
          cases H
          exact .m rfl (.rfl' _)
         ·refine .A 7 [.d (.agg [cB false,cB true,cB false,cB false,cB false])] rfl (OpQ.g (q_buildArr underlying79 hi79 hz79 hi4 hs4 rfl rfl)) ?_
          refine .R func38 results38 rfl ?_
          cases H
          exact .m rfl (.rfl' _)
        ·intro hj3
         refine .A 5 [] rfl trivial ?_
         refine .ite H rfl (fun H=>?_) (fun H=>?_)
         ·refine .A 1 [] rfl trivial ?_
          exact .z (hj3 (v0kind==14) H) rfl rfl
         ·refine .A 4 [] rfl trivial ?_
          exact .z (hj3 (v0kind==15) H) rfl rfl
      ·intro hj2
       refine .A 5 [] rfl trivial ?_
       refine .ite H rfl (fun H=>?_) (fun H=>?_)
       ·refine .A 1 [] rfl trivial ?_
        exact .z (hj2 (v0kind==7) H) rfl rfl
       ·refine .A 5 [] rfl trivial ?_
        refine .ite H rfl (fun H=>?_) (fun H=>?_)
        ·refine .A 1 [] rfl trivial ?_
         exact .z (hj2 (v0kind==8) H) rfl rfl
        ·refine .A 4 [] rfl trivial ?_
         exact .z (hj2 (v0kind==9) H) rfl rfl
    ·intro hj1
     refine .A 5 [] rfl trivial ?_
     refine .ite H rfl (fun H=>?_) (fun H=>?_)
     ·refine .A 1 [] rfl trivial ?_
      exact .z (hj1 (v0kind==5) H) rfl rfl
     ·refine .A 4 [] rfl trivial ?_
      exact .z (hj1 (v0kind==6) H) rfl rfl
theorem c_f_r17_id {v0n:Int} {r:Bool} (H:f_r17_id v0n=some r):ACall prog 49 [cI v0n] (·=cB r):=by
 refine ACall.enter' func49 rfl ntmps49 rfl fun S hS=>?_
 unfold f_r17_id at H
 refine .A 14 [] rfl ⟨rfl,rfl⟩ ?_
 refine .R func49 results49 rfl ?_
 cases H
 exact .m rfl (.rfl' _)
theorem c_f_r17_Name {v0s:List UInt8} {r:Bool} (H:f_r17_Name v0s=some r):ACall prog 50 [cS v0s] (·=cB r):=by
 refine ACall.enter' func50 rfl ntmps50 rfl fun S hS=>?_
 unfold f_r17_Name at H
 obtain ⟨hk1,H⟩:=ck_some H
 obtain ⟨hk2,H⟩:=ck_some H
 refine .A 26 [.i (v0s.length:Int),.i (v0s.length:Int),.c (nth v0s (Int.toNat (0))),.b (decide ((nth v0s (Int.toNat (0))) < 97)),.c (nth v0s (Int.toNat (0))),.b (decide ((nth v0s (Int.toNat (0))) > 122))] rfl ⟨rfl,fun hg=>OpQ.g (q8_gtr (a:=nth v0s (Int.toNat (0))) (b:=122) rfl rfl),rfl,fun hg=>OpQ.g (q_indexL (i:=0) underlying9 rfl rfl (hk2 hg)),rfl,rfl,fun hg=>OpQ.g (q8_lss (a:=nth v0s (Int.toNat (0))) (b:=97) rfl rfl),rfl,fun hg=>OpQ.g (q_indexL (i:=0) underlying9 rfl rfl (hk1 hg)),rfl,rfl,rfl,fun hg=>OpQ.g (q_lenS underlying9 rfl),rfl,OpQ.g (q_lenS underlying9 rfl)⟩ ?_
 refine .ite H rfl (fun H=>?_) (fun H=>?_)
 ·refine .A 4 [] rfl trivial ?_
  refine .R func50 results50 rfl ?_
  cases H
  exact .m rfl (.rfl' _)
 ·refine .A 7 [] rfl trivial ?_
  obtain ⟨n1,H⟩:=loop_some H
  refine .loop (ι:=Nat×(Int)) (fun ⟨_,v3il1⟩=>[(0,.d (cS v0s)),(3,.d (cI v3il1))]) (fun ⟨_,v3il1⟩=>⟨[],[]⟩) (fun p=>iter (fun s=>f_r17_Name_l1 v0s s) p.1 p.2=some r) (·.1) (n1,0) H (.cons rfl (.rfl' _) (.cons rfl (.rfl' _) (.nil))) rfl ?_
  rintro ⟨m1,v3il1⟩ HI ih1
  obtain ⟨n1,q1,hm1,H,HK1⟩:=iter_succ HI
  clear HI
  replace H:f_r17_Name_l1 v0s v3il1=some q1:=H
  unfold f_r17_Name_l1 at H
  refine .A 8 [.i (v0s.length:Int)] rfl (OpQ.g (q_lenS underlying9 rfl)) ?_
  refine .ite H rfl (fun H=>?_) (fun H=>?_)
  ·obtain ⟨hk3,H⟩:=ck_some H
   obtain ⟨hk4,H⟩:=ck_some H
   obtain ⟨hk5,H⟩:=ck_some H
   obtain ⟨hk6,H⟩:=ck_some H
   refine .B 25 [.c (nth v0s v3il1.toNat),.b (decide ((nth v0s v3il1.toNat) < 97)),.c (nth v0s v3il1.toNat),.b (decide ((nth v0s v3il1.toNat) > 122)),.c (nth v0s v3il1.toNat),.b (decide ((nth v0s v3il1.toNat) < 48)),.c (nth v0s v3il1.toNat),.b (decide ((nth v0s v3il1.toNat) > 57))] rfl ⟨fun hg=>OpQ.g (q8_gtr (a:=nth v0s v3il1.toNat) (b:=57) rfl rfl),rfl,fun hg=>OpQ.g (q_indexL (i:=v3il1) underlying9 rfl rfl (hk6 hg)),rfl,rfl,rfl,fun hg=>OpQ.g (q8_lss (a:=nth v0s v3il1.toNat) (b:=48) rfl rfl),rfl,fun hg=>OpQ.g (q_indexL (i:=v3il1) underlying9 rfl rfl (hk5 hg)),rfl,rfl,rfl,fun hg=>OpQ.g (q8_gtr (a:=nth v0s v3il1.toNat) (b:=122) rfl rfl),rfl,fun hg=>OpQ.g (q_indexL (i:=v3il1) underlying9 rfl rfl (hk4 hg)),rfl,rfl,OpQ.g (q8_lss (a:=nth v0s v3il1.toNat) (b:=97) rfl rfl),OpQ.g (q_indexL (i:=v3il1) underlying9 rfl rfl hk3)⟩ ?_
   refine .guardG (env':=[(43,_),(47,_)]) rfl rfl rfl ⟨.inr (.inl rfl),⟨.inr (.inr ⟨_,_,rfl,rfl⟩),trivial⟩⟩ rfl (fun hg=>OpQ.g (q_pickOrB rfl rfl rfl)) ?_
   obtain ⟨hk7,H⟩:=ck_some H
   refine .A 8 [.c (nth v0s v3il1.toNat),.b ((nth v0s v3il1.toNat) != 45)] rfl ⟨rfl,fun hg=>OpQ.g (q8_neq (a:=nth v0s v3il1.toNat) (b:=45) rfl rfl),rfl,fun hg=>OpQ.g (q_indexL (i:=v3il1) underlying9 rfl rfl (hk7 hg)),rfl,rfl,rfl⟩ ?_
   refine .ite H rfl (fun H=>?_) (fun H=>?_)
   ·refine .A 4 [] rfl trivial ?_
    refine .R func50 results50 rfl ?_
    cases H
    cases HK1
    exact .m rfl (.rfl' _)
   ·obtain ⟨hk8,H⟩:=ck_some H
    refine .A 7 [.i (v3il1+1)] rfl (g_addI rfl rfl hk8) ?_
    cases H
    exact .z (ih1 (n1,(v3il1+1)) HK1 hm1) rfl rfl
  ·refine .A 5 [] rfl trivial ?_
   refine .R func50 results50 rfl ?_
   cases H
   cases HK1
   exact .m rfl (.rfl' _)
theorem c_f_r02_Valid {v0s:List UInt8} {r:Bool} (H:f_r02_Valid v0s=some r):ACall prog 48 [cS v0s] (·=cB r):=by
 refine ACall.enter' func48 rfl ntmps48 rfl fun S hS=>?_
 unfold f_r02_Valid at H
 refine .A 9 [] rfl trivial ?_
 refine .blockJoin2 (ι:=Unit) (fun _=>[(0,.d (cS v0s))]) (fun _=>⟨[],[]⟩) (fun s=>f_r02_Valid_j1 v0s=some r) ?_ ?_
 ·rintro _ H
  replace H:f_r02_Valid_j1 v0s=some r:=H
  unfold f_r02_Valid_j1 at H
  refine .A 12 [.i (v0s.length:Int),.i (v0s.length:Int)] rfl ⟨rfl,rfl,fun hg=>OpQ.g (q_lenS underlying9 rfl),rfl,OpQ.g (q_lenS underlying9 rfl)⟩ ?_
  refine .R func48 results48 rfl ?_
  cases H
  exact .m rfl (.rfl' _)
 ·intro hj1 hj1x
  obtain ⟨n1,H⟩:=loop_some H
  refine .loop (ι:=Nat×(Int)) (fun ⟨_,v3il1⟩=>[(0,.d (cS v0s)),(3,.d (cI v3il1))]) (fun ⟨_,v3il1⟩=>⟨[],[]⟩) (fun p=>iter (fun s=>f_r02_Valid_l1 v0s s) p.1 p.2=some r) (·.1) (n1,0) H (.cons rfl (.rfl' _) (.cons rfl (.rfl' _) (.nil))) rfl ?_
  rintro ⟨m1,v3il1⟩ HI ih1
  obtain ⟨n1,q1,hm1,H,HK1⟩:=iter_succ HI
  clear HI
  replace H:f_r02_Valid_l1 v0s v3il1=some q1:=H
  unfold f_r02_Valid_l1 at H
  refine .A 8 [.i (v0s.length:Int)] rfl (OpQ.g (q_lenS underlying9 rfl)) ?_
  refine .ite H rfl (fun H=>?_) (fun H=>?_)
  ·obtain ⟨hk1,H⟩:=ck_some H
   obtain ⟨hk2,H⟩:=ck_some H
   refine .A 16 [.c (nth v0s v3il1.toNat),.b (decide ((nth v0s v3il1.toNat) < 48)),.c (nth v0s v3il1.toNat),.b (decide ((nth v0s v3il1.toNat) > 57))] rfl ⟨rfl,fun hg=>OpQ.g (q8_gtr (a:=nth v0s v3il1.toNat) (b:=57) rfl rfl),rfl,fun hg=>OpQ.g (q_indexL (i:=v3il1) underlying9 rfl rfl (hk2 hg)),rfl,rfl,OpQ.g (q8_lss (a:=nth v0s v3il1.toNat) (b:=48) rfl rfl),OpQ.g (q_indexL (i:=v3il1) underlying9 rfl rfl hk1)⟩ ?_
   refine .ite H rfl (fun H=>?_) (fun H=>?_)
   ·refine .A 4 [] rfl trivial ?_
    refine .R func48 results48 rfl ?_
    cases H
    cases HK1
    exact .m rfl (.rfl' _)
   ·obtain ⟨hk3,H⟩:=ck_some H
    refine .A 7 [.i (v3il1+1)] rfl (g_addI rfl rfl hk3) ?_
    cases H
    exact .z (ih1 (n1,(v3il1+1)) HK1 hm1) rfl rfl
  ·refine .A 1 [] rfl trivial ?_
   obtain ⟨q0,H9,hq0⟩:=map_some' H; clear H; cases hq0
   cases HK1
   have H:=H9
   exact .z (hj1x () H) rfl rfl
theorem c_f_r17_value {v0e:Event} {r:Bool} (H:f_r17_value v0e=some r):ACall prog 51 [.agg (Event.row v0e)] (·=cB r):=by
 refine ACall.enter' func51 rfl ntmps51 rfl fun S hS=>?_
 unfold f_r17_value at H
 refine .A 12 [.r 0] rfl trivial ?_
 refine .ite H rfl (fun H=>?_) (fun H=>?_)
 ·refine .A 12 [] rfl ⟨rfl,rfl,rfl⟩ ?_
  refine .R func51 results51 rfl ?_
  cases H
  exact .m rfl (.rfl' _)
 ·refine .A 8 [] rfl trivial ?_
  refine .ite H rfl (fun H=>?_) (fun H=>?_)
  ·refine .A 12 [] rfl ⟨rfl,rfl,rfl⟩ ?_
   refine .R func51 results51 rfl ?_
   cases H
   exact .m rfl (.rfl' _)
  ·refine .A 13 [] rfl ⟨rfl,rfl,rfl⟩ ?_
   refine .R func51 results51 rfl ?_
   cases H
   exact .m rfl (.rfl' _)
theorem c_f_r17_form {v0:Event} {v1:Int} {r:Int} (H:f_r17_form v0 v1=some r):ACall prog 37 [.agg (Event.row v0),cI v1] (·=cI r):=by
 obtain ⟨i4,hi4,hz4,hs4,hb4⟩:=in_4
 refine ACall.enter' func37 rfl ntmps37 rfl fun S hS=>?_
 unfold f_r17_form at H
 refine .A 17 [.r 0] rfl ⟨rfl,rfl,rfl⟩ ?_
 refine .ite H rfl (fun H=>?_) (fun H=>?_)
 ·refine .A 4 [] rfl trivial ?_
  refine .R func37 results37 rfl ?_
  cases H
  exact .m rfl (.rfl' _)
 ·refine .A 13 [] rfl ⟨rfl,rfl,rfl⟩ ?_
  refine .ite H rfl (fun H=>?_) (fun H=>?_)
  ·refine .A 4 [] rfl trivial ?_
   refine .R func37 results37 rfl ?_
   cases H
   exact .m rfl (.rfl' _)
  ·refine .A 9 [] rfl trivial ?_
   refine .ite H rfl (fun H=>?_) (fun H=>?_)
   ·refine .A 4 [] rfl trivial ?_
    refine .R func37 results37 rfl ?_
    cases H
    exact .m rfl (.rfl' _)
   ·obtain ⟨y1,hy1,H⟩:=bind_some' H
    refine .B 28 [.d (.agg [cB (nth y1 0),cB (nth y1 1),cB (nth y1 2),cB (nth y1 3),cB (nth y1 4)]),.r 1,.g (.ref 1 0),.g (.ref 1 1)] rfl ⟨rfl,rfl,rfl,rfl,rfl,fun hg=>OpQ.g (q_idxArr (m:=1) (sz:=1) underlying79 ⟨_,hi4,hs4⟩ rfl rfl rfl (by decide)),rfl,rfl,rfl,OpQ.g (q_idxArr (m:=0) (sz:=1) underlying79 ⟨_,hi4,hs4⟩ rfl rfl rfl (by decide)),g_call (en 0 rfl) rfl rfl (c_f_r17_uses (hy1))⟩ ?_
    refine .guardG (env':=[(41,_),(44,_)]) rfl rfl rfl ⟨.inr (.inl rfl),⟨.inr (.inr ⟨_,_,rfl,rfl⟩),trivial⟩⟩ rfl (fun hg=>OpQ.g (q_pickAndB rfl rfl rfl)) ?_
    refine .B 9 [.g (.ref 1 2)] rfl ⟨rfl,rfl,rfl,rfl,rfl,fun hg=>OpQ.g (q_idxArr (m:=2) (sz:=1) underlying79 ⟨_,hi4,hs4⟩ rfl rfl rfl (by decide)),rfl⟩ ?_
    refine .guardG (env':=[(51,_),(54,_)]) rfl rfl rfl ⟨.inr (.inl rfl),⟨.inr (.inr ⟨_,_,rfl,rfl⟩),trivial⟩⟩ rfl (fun hg=>OpQ.g (q_pickAndB rfl rfl rfl)) ?_
    refine .B 9 [.g (.ref 1 3)] rfl ⟨rfl,rfl,rfl,rfl,rfl,fun hg=>OpQ.g (q_idxArr (m:=3) (sz:=1) underlying79 ⟨_,hi4,hs4⟩ rfl rfl rfl (by decide)),rfl⟩ ?_
    refine .guardG (env':=[(61,_),(64,_)]) rfl rfl rfl ⟨.inr (.inl rfl),⟨.inr (.inr ⟨_,_,rfl,rfl⟩),trivial⟩⟩ rfl (fun hg=>OpQ.g (q_pickAndB rfl rfl rfl)) ?_
    refine .B 9 [.g (.ref 1 4)] rfl ⟨rfl,rfl,rfl,rfl,rfl,fun hg=>OpQ.g (q_idxArr (m:=4) (sz:=1) underlying79 ⟨_,hi4,hs4⟩ rfl rfl rfl (by decide)),rfl⟩ ?_
    refine .guardG (env':=[(71,_),(74,_)]) rfl rfl rfl ⟨.inr (.inl rfl),⟨.inr (.inr ⟨_,_,rfl,rfl⟩),trivial⟩⟩ rfl (fun hg=>OpQ.g (q_pickAndB rfl rfl rfl)) ?_
    refine .A 2 [] rfl rfl ?_
    refine .ite H rfl (fun H=>?_) (fun H=>?_)
    ·refine .A 4 [] rfl trivial ?_
     refine .R func37 results37 rfl ?_
     cases H
     exact .m rfl (.rfl' _)
    ·obtain ⟨y2,hy2,H⟩:=bind_some' H
     obtain ⟨y3,hy3,H⟩:=bind_some' H
     refine .B 20 [.g (.ref 1 0),.b y2,.g (.ref 1 1),.b y3] rfl ⟨rfl,fun hg=>g_call (en 1 rfl) rfl rfl (c_f_r17_id (gcall_some hy3 hg)),rfl,rfl,rfl,rfl,fun hg=>OpQ.g (q_idxArr (m:=1) (sz:=1) underlying79 ⟨_,hi4,hs4⟩ rfl rfl rfl (by decide)),rfl,rfl,fun hg=>g_call (en 1 rfl) rfl rfl (c_f_r17_id (gcall_some hy2 hg)),rfl,rfl,OpQ.g (q_idxArr (m:=0) (sz:=1) underlying79 ⟨_,hi4,hs4⟩ rfl rfl rfl (by decide))⟩ ?_
     refine .guardG (env':=[(88,_),(92,_)]) rfl rfl rfl ⟨.inr (.inl rfl),⟨.inr (.inr ⟨_,_,rfl,rfl⟩),trivial⟩⟩ rfl (fun hg=>OpQ.g (q_pickAndB rfl rfl rfl)) ?_
     refine .A 2 [] rfl rfl ?_
     refine .ite H rfl (fun H=>?_) (fun H=>?_)
     ·refine .A 4 [] rfl trivial ?_
      refine .R func37 results37 rfl ?_
      cases H
      exact .m rfl (.rfl' _)
     ·obtain ⟨y4,hy4,H⟩:=bind_some' H
      refine .B 20 [.g (.ref 1 3),.b y4] rfl ⟨rfl,rfl,rfl,rfl,rfl,rfl,rfl,fun hg=>g_call (en 2 rfl) rfl rfl (c_f_r17_Name (gcall_some hy4 hg)),rfl,rfl,OpQ.g (q_idxArr (m:=3) (sz:=1) underlying79 ⟨_,hi4,hs4⟩ rfl rfl rfl (by decide))⟩ ?_
      refine .guardG (env':=[(107,_),(110,_)]) rfl rfl rfl ⟨.inr (.inl rfl),⟨.inr (.inr ⟨_,_,rfl,rfl⟩),trivial⟩⟩ rfl (fun hg=>OpQ.g (q_pickAndB rfl rfl rfl)) ?_
      refine .B 4 [] rfl ⟨rfl,rfl,rfl⟩ ?_
      refine .guardG (env':=[(112,_),(115,_)]) rfl rfl rfl ⟨.inr (.inl rfl),⟨.inr (.inr ⟨_,_,rfl,rfl⟩),trivial⟩⟩ rfl (fun hg=>OpQ.g (q_pickAndB rfl rfl rfl)) ?_
      refine .A 2 [] rfl rfl ?_
      refine .ite H rfl (fun H=>?_) (fun H=>?_)
      ·refine .A 4 [] rfl trivial ?_
       refine .R func37 results37 rfl ?_
       cases H
       exact .m rfl (.rfl' _)
      ·obtain ⟨y5,hy5,H⟩:=bind_some' H
       refine .A 13 [.g (.ref 1 2),.b y5] rfl ⟨rfl,rfl,fun hg=>g_call (en 3 rfl) rfl rfl (c_f_r02_Valid (gcall_some hy5 hg)),rfl,rfl,OpQ.g (q_idxArr (m:=2) (sz:=1) underlying79 ⟨_,hi4,hs4⟩ rfl rfl rfl (by decide))⟩ ?_
       refine .ite H rfl (fun H=>?_) (fun H=>?_)
       ·refine .A 4 [] rfl trivial ?_
        refine .R func37 results37 rfl ?_
        cases H
        exact .m rfl (.rfl' _)
       ·obtain ⟨y6,hy6,H⟩:=bind_some' H
        refine .A 12 [.g (.ref 1 4),.b y6] rfl ⟨rfl,rfl,fun hg=>g_call (en 4 rfl) rfl rfl (c_f_r17_value (gcall_some hy6 hg)),rfl,OpQ.g (q_idxArr (m:=4) (sz:=1) underlying79 ⟨_,hi4,hs4⟩ rfl rfl rfl (by decide))⟩ ?_
        refine .ite H rfl (fun H=>?_) (fun H=>?_)
        ·refine .A 4 [] rfl trivial ?_
         refine .R func37 results37 rfl ?_
         cases H
         exact .m rfl (.rfl' _)
        ·refine .A 5 [] rfl trivial ?_
         refine .R func37 results37 rfl ?_
         cases H
         exact .m rfl (.rfl' _)
theorem c_f_r17_account {v0b:Billingref17Book} {v1n:Int} {r:Int} (H:f_r17_account v0b v1n=some r):ACall prog 36 [.agg (Billingref17Book.row v0b),cI v1n] (·=cI r):=by
 refine ACall.enter' func36 rfl ntmps36 rfl fun S hS=>?_
 unfold f_r17_account at H
 refine .A 11 [.r 0] rfl trivial ?_
 obtain ⟨n1,H⟩:=loop_some H
 refine .loop (ι:=Nat×(Int)) (fun ⟨_,v5il1⟩=>[(1,.d (cI v1n)),(2,.ref 0 0),(5,.d (cI v5il1))]) (fun ⟨_,v5il1⟩=>⟨[.row 67 [.d (slOf 6 Account.row0 v0b.accounts),.d (slOf 8 Sub.row v0b.subs),.d (slOf 1 rI v0b.ended)]],[]⟩) (fun p=>iter (fun s=>f_r17_account_l1 v0b v1n s) p.1 p.2=some r) (·.1) (n1,0) H (.cons rfl (.rfl' _) (.cons rfl (.rfl' _) (.cons rfl (.rfl' _) (.nil)))) rfl ?_
 rintro ⟨m1,v5il1⟩ HI ih1
 obtain ⟨n1,q1,hm1,H,HK1⟩:=iter_succ HI
 clear HI
 replace H:f_r17_account_l1 v0b v1n v5il1=some q1:=H
 unfold f_r17_account_l1 at H
 refine .A 9 [.i (v0b.accounts.length:Int)] rfl (s59.n rfl rfl) ?_
 refine .ite H rfl (fun H=>?_) (fun H=>?_)
 ·obtain ⟨hk1,H⟩:=ck_some H
  refine .A 14 [.d (.ro (Account.row0 (nth v0b.accounts v5il1.toNat)))] rfl (s59.ix rfl rfl rfl hk1) ?_
  refine .ite H rfl (fun H=>?_) (fun H=>?_)
  ·refine .A 5 [] rfl trivial ?_
   refine .R func36 results36 rfl ?_
   cases H
   cases HK1
   exact .m rfl (.rfl' _)
  ·obtain ⟨hk2,H⟩:=ck_some H
   refine .A 7 [.i (v5il1+1)] rfl (g_addI rfl rfl hk2) ?_
   cases H
   exact .z (ih1 (n1,(v5il1+1)) HK1 hm1) rfl rfl
 ·refine .A 5 [] rfl trivial ?_
  refine .R func36 results36 rfl ?_
  cases H
  cases HK1
  exact .m rfl (.rfl' _)
theorem c_f_r17_sub {v0b:Billingref17Book} {v1n:Int} {r:Int} (H:f_r17_sub v0b v1n=some r):ACall prog 27 [.agg (Billingref17Book.row v0b),cI v1n] (·=cI r):=by
 refine ACall.enter' func27 rfl ntmps27 rfl fun S hS=>?_
 unfold f_r17_sub at H
 refine .A 11 [.r 0] rfl trivial ?_
 obtain ⟨n1,H⟩:=loop_some H
 refine .loop (ι:=Nat×(Int)) (fun ⟨_,v5il1⟩=>[(1,.d (cI v1n)),(2,.ref 0 0),(5,.d (cI v5il1))]) (fun ⟨_,v5il1⟩=>⟨[.row 67 [.d (slOf 6 Account.row0 v0b.accounts),.d (slOf 8 Sub.row v0b.subs),.d (slOf 1 rI v0b.ended)]],[]⟩) (fun p=>iter (fun s=>f_r17_sub_l1 v0b v1n s) p.1 p.2=some r) (·.1) (n1,0) H (.cons rfl (.rfl' _) (.cons rfl (.rfl' _) (.cons rfl (.rfl' _) (.nil)))) rfl ?_
 rintro ⟨m1,v5il1⟩ HI ih1
 obtain ⟨n1,q1,hm1,H,HK1⟩:=iter_succ HI
 clear HI
 replace H:f_r17_sub_l1 v0b v1n v5il1=some q1:=H
 unfold f_r17_sub_l1 at H
 refine .A 9 [.i (v0b.subs.length:Int)] rfl (s60.n rfl rfl) ?_
 refine .ite H rfl (fun H=>?_) (fun H=>?_)
 ·obtain ⟨hk1,H⟩:=ck_some H
  refine .A 14 [.d (.ro (Sub.row (nth v0b.subs v5il1.toNat)))] rfl (s60.ix rfl rfl rfl hk1) ?_
  refine .ite H rfl (fun H=>?_) (fun H=>?_)
  ·refine .A 5 [] rfl trivial ?_
   refine .R func27 results27 rfl ?_
   cases H
   cases HK1
   exact .m rfl (.rfl' _)
  ·obtain ⟨hk2,H⟩:=ck_some H
   refine .A 7 [.i (v5il1+1)] rfl (g_addI rfl rfl hk2) ?_
   cases H
   exact .z (ih1 (n1,(v5il1+1)) HK1 hm1) rfl rfl
 ·refine .A 5 [] rfl trivial ?_
  refine .R func27 results27 rfl ?_
  cases H
  cases HK1
  exact .m rfl (.rfl' _)
theorem c_f_r17_ended {v0b:Billingref17Book} {v1n:Int} {r:Bool} (H:f_r17_ended v0b v1n=some r):ACall prog 28 [.agg (Billingref17Book.row v0b),cI v1n] (·=cB r):=by
 refine ACall.enter' func28 rfl ntmps28 rfl fun S hS=>?_
 unfold f_r17_ended at H
 refine .A 11 [.r 0] rfl trivial ?_
 obtain ⟨n1,H⟩:=loop_some H
 refine .loop (ι:=Nat×(Int)) (fun ⟨_,v5il1⟩=>[(1,.d (cI v1n)),(2,.ref 0 0),(5,.d (cI v5il1))]) (fun ⟨_,v5il1⟩=>⟨[.row 67 [.d (slOf 6 Account.row0 v0b.accounts),.d (slOf 8 Sub.row v0b.subs),.d (slOf 1 rI v0b.ended)]],[]⟩) (fun p=>iter (fun s=>f_r17_ended_l1 v0b v1n s) p.1 p.2=some r) (·.1) (n1,0) H (.cons rfl (.rfl' _) (.cons rfl (.rfl' _) (.cons rfl (.rfl' _) (.nil)))) rfl ?_
 rintro ⟨m1,v5il1⟩ HI ih1
 obtain ⟨n1,q1,hm1,H,HK1⟩:=iter_succ HI
 clear HI
 replace H:f_r17_ended_l1 v0b v1n v5il1=some q1:=H
 unfold f_r17_ended_l1 at H
 refine .A 9 [.i (v0b.ended.length:Int)] rfl (s65.n rfl rfl) ?_
 refine .ite H rfl (fun H=>?_) (fun H=>?_)
 ·obtain ⟨hk1,H⟩:=ck_some H
  refine .A 13 [.d (.ro (rI (nth v0b.ended v5il1.toNat)))] rfl (s65.ix rfl rfl rfl hk1) ?_
  refine .ite H rfl (fun H=>?_) (fun H=>?_)
  ·refine .A 4 [] rfl trivial ?_
   refine .R func28 results28 rfl ?_
   cases H
   cases HK1
   exact .m rfl (.rfl' _)
  ·obtain ⟨hk2,H⟩:=ck_some H
   refine .A 7 [.i (v5il1+1)] rfl (g_addI rfl rfl hk2) ?_
   cases H
   exact .z (ih1 (n1,(v5il1+1)) HK1 hm1) rfl rfl
 ·refine .A 5 [] rfl trivial ?_
  refine .R func28 results28 rfl ?_
  cases H
  cases HK1
  exact .m rfl (.rfl' _)
theorem c_f_r17_busy {v0b:Billingref17Book} {v1n:Int} {r:Bool} (H:f_r17_busy v0b v1n=some r):ACall prog 52 [.agg (Billingref17Book.row v0b),cI v1n] (·=cB r):=by
 refine ACall.enter' func52 rfl ntmps52 rfl fun S hS=>?_
 unfold f_r17_busy at H
 refine .A 11 [.r 0] rfl trivial ?_
 obtain ⟨n1,H⟩:=loop_some H
 refine .loop (ι:=Nat×(Int)) (fun ⟨_,v5il1⟩=>[(1,.d (cI v1n)),(2,.ref 0 0),(5,.d (cI v5il1))]) (fun ⟨_,v5il1⟩=>⟨[.row 67 [.d (slOf 6 Account.row0 v0b.accounts),.d (slOf 8 Sub.row v0b.subs),.d (slOf 1 rI v0b.ended)]],[]⟩) (fun p=>iter (fun s=>f_r17_busy_l1 v0b v1n s) p.1 p.2=some r) (·.1) (n1,0) H (.cons rfl (.rfl' _) (.cons rfl (.rfl' _) (.cons rfl (.rfl' _) (.nil)))) rfl ?_
 rintro ⟨m1,v5il1⟩ HI ih1
 obtain ⟨n1,q1,hm1,H,HK1⟩:=iter_succ HI
 clear HI
 replace H:f_r17_busy_l1 v0b v1n v5il1=some q1:=H
 unfold f_r17_busy_l1 at H
 refine .A 9 [.i (v0b.subs.length:Int)] rfl (s60.n rfl rfl) ?_
 refine .ite H rfl (fun H=>?_) (fun H=>?_)
 ·obtain ⟨hk1,H⟩:=ck_some H
  obtain ⟨hk2,H⟩:=ck_some H
  obtain ⟨y1,hy1,H⟩:=bind_some' H
  refine .A 26 [.p 19,.d (.ro (Sub.row (nth v0b.subs v5il1.toNat))),.d (.ro (Sub.row (nth v0b.subs v5il1.toNat))),.b y1] rfl ⟨rfl,rfl,fun hg=>g_call (en 5 rfl) rfl rfl (c_f_r17_ended (gcall_some hy1 hg)),rfl,rfl,rfl,rfl,fun hg=>s60.ix rfl rfl rfl (hk2 hg),rfl,rfl,rfl,s60.ix rfl rfl rfl hk1,(show drawB _ _=true by kernel_rfl)⟩ ?_
  refine .ite H rfl (fun H=>?_) (fun H=>?_)
  ·refine .A 4 [] rfl trivial ?_
   refine .R func52 results52 rfl ?_
   cases H
   cases HK1
   exact .m rfl (.rfl' _)
  ·obtain ⟨hk3,H⟩:=ck_some H
   refine .A 7 [.i (v5il1+1)] rfl (g_addI rfl rfl hk3) ?_
   cases H
   exact .z (ih1 (n1,(v5il1+1)) HK1 hm1) rfl rfl
 ·refine .A 5 [] rfl trivial ?_
  refine .R func52 results52 rfl ?_
  cases H
  cases HK1
  exact .m rfl (.rfl' _)
set_option maxRecDepth 100000
set_option maxHeartbeats 1000000
theorem c_f_r17_ofAccount {v0b:Billingref17Book} {v1e:Event} {r:Int} (H:f_r17_ofAccount v0b v1e=some r):ACall prog 39 [.agg (Billingref17Book.row v0b),.agg (Event.row v1e)] (·=cI r):=by
 refine ACall.enter' func39 rfl ntmps39 rfl fun S hS=>?_
 unfold f_r17_ofAccount at H
 obtain ⟨y1,hy1,H⟩:=bind_some' H
 refine .A 21 [.r 0,.r 1,.i y1] rfl (g_call (en 6 rfl) rfl rfl (c_f_r17_account (hy1))) ?_
 refine .ite H rfl (fun H=>?_) (fun H=>?_)
 ·refine .A 6 [] rfl trivial ?_
  refine .ite H rfl (fun H=>?_) (fun H=>?_)
  ·refine .A 4 [] rfl trivial ?_
   refine .R func39 results39 rfl ?_
   cases H
   exact .m rfl (.rfl' _)
  ·refine .A 5 [] rfl trivial ?_
   refine .R func39 results39 rfl ?_
   cases H
   exact .m rfl (.rfl' _)
 ·refine .A 7 [] rfl trivial ?_
  refine .ite H rfl (fun H=>?_) (fun H=>?_)
  ·refine .A 4 [] rfl trivial ?_
   refine .R func39 results39 rfl ?_
   cases H
   exact .m rfl (.rfl' _)
  ·obtain ⟨hk1,H⟩:=ck_some H
   refine .A 11 [.d (.ro (Account.row0 (nth v0b.accounts y1.toNat)))] rfl (s59.ix rfl rfl rfl hk1) ?_
   refine .ite H rfl (fun H=>?_) (fun H=>?_)
   ·refine .A 4 [] rfl trivial ?_
    refine .R func39 results39 rfl ?_
    cases H
    exact .m rfl (.rfl' _)
   ·obtain ⟨y2,hy2,H⟩:=bind_some' H
    refine .A 15 [.i y2] rfl ⟨rfl,rfl,fun hg=>g_call (en 7 rfl) rfl rfl (c_f_r17_sub (gcall_some hy2 hg)),rfl,rfl,rfl⟩ ?_
    refine .ite H rfl (fun H=>?_) (fun H=>?_)
    ·refine .A 4 [] rfl trivial ?_
     refine .R func39 results39 rfl ?_
     cases H
     exact .m rfl (.rfl' _)
    ·obtain ⟨y3,hy3,H⟩:=bind_some' H
     obtain ⟨hk2,H⟩:=ck_some H
     refine .B 25 [.b y3,.d (.ro (Account.row0 (nth v0b.accounts y1.toNat)))] rfl ⟨rfl,rfl,rfl,fun hg=>s59.ix rfl rfl rfl (hk2 hg),rfl,rfl,rfl,rfl,rfl,rfl,rfl,fun hg=>g_call (en 8 rfl) rfl rfl (c_f_r17_busy (gcall_some hy3 hg)),rfl,rfl,rfl⟩ ?_
     refine .guardG (env':=[(46,_),(53,_)]) rfl rfl rfl ⟨.inr (.inl rfl),⟨.inr (.inr ⟨_,_,rfl,rfl⟩),trivial⟩⟩ rfl (fun hg=>OpQ.g (q_pickAndB rfl rfl rfl)) ?_
     refine .A 2 [] rfl rfl ?_
     refine .ite H rfl (fun H=>?_) (fun H=>?_)
     ·refine .A 4 [] rfl trivial ?_
      refine .R func39 results39 rfl ?_
      cases H
      exact .m rfl (.rfl' _)
     ·refine .A 5 [] rfl trivial ?_
      refine .R func39 results39 rfl ?_
      cases H
      exact .m rfl (.rfl' _)
theorem c_f_r17_Has {v0l:List (List UInt8)} {v1s:List UInt8} {r:Bool} (H:f_r17_Has v0l v1s=some r):ACall prog 25 [slOf 1 rS v0l,cS v1s] (·=cB r):=by
 refine ACall.enter' func25 rfl ntmps25 rfl fun S hS=>?_
 unfold f_r17_Has at H
 refine .A 10 [] rfl trivial ?_
 obtain ⟨n1,H⟩:=loop_some H
 refine .loop (ι:=Nat×(Int)) (fun ⟨_,v5il1⟩=>[(0,.d (slOf 1 rS v0l)),(1,.d (cS v1s)),(5,.d (cI v5il1))]) (fun ⟨_,v5il1⟩=>⟨[],[]⟩) (fun p=>iter (fun s=>f_r17_Has_l1 v0l v1s s) p.1 p.2=some r) (·.1) (n1,0) H (.cons rfl (.rfl' _) (.cons rfl (.rfl' _) (.cons rfl (.rfl' _) (.nil)))) rfl ?_
 rintro ⟨m1,v5il1⟩ HI ih1
 obtain ⟨n1,q1,hm1,H,HK1⟩:=iter_succ HI
 clear HI
 replace H:f_r17_Has_l1 v0l v1s v5il1=some q1:=H
 unfold f_r17_Has_l1 at H
 refine .A 8 [.i (v0l.length:Int)] rfl (s36.n rfl rfl) ?_
 refine .ite H rfl (fun H=>?_) (fun H=>?_)
 ·obtain ⟨hk1,H⟩:=ck_some H
  refine .A 12 [.d (.ro (rS (nth v0l v5il1.toNat)))] rfl (s36.ix rfl rfl rfl hk1) ?_
  refine .ite H rfl (fun H=>?_) (fun H=>?_)
  ·refine .A 4 [] rfl trivial ?_
   refine .R func25 results25 rfl ?_
   cases H
   cases HK1
   exact .m rfl (.rfl' _)
  ·obtain ⟨hk2,H⟩:=ck_some H
   refine .A 7 [.i (v5il1+1)] rfl (g_addI rfl rfl hk2) ?_
   cases H
   exact .z (ih1 (n1,(v5il1+1)) HK1 hm1) rfl rfl
 ·refine .A 5 [] rfl trivial ?_
  refine .R func25 results25 rfl ?_
  cases H
  cases HK1
  exact .m rfl (.rfl' _)
theorem c_f_r17_taken {v0b:Billingref17Book} {v1number:List UInt8} {r:Bool} (H:f_r17_taken v0b v1number=some r):ACall prog 53 [.agg (Billingref17Book.row v0b),cS v1number] (·=cB r):=by
 refine ACall.enter' func53 rfl ntmps53 rfl fun S hS=>?_
 unfold f_r17_taken at H
 refine .A 11 [.r 0] rfl trivial ?_
 obtain ⟨n1,H⟩:=loop_some H
 refine .loop (ι:=Nat×(Int)) (fun ⟨_,v5il1⟩=>[(1,.d (cS v1number)),(2,.ref 0 0),(5,.d (cI v5il1))]) (fun ⟨_,v5il1⟩=>⟨[.row 67 [.d (slOf 6 Account.row0 v0b.accounts),.d (slOf 8 Sub.row v0b.subs),.d (slOf 1 rI v0b.ended)]],[]⟩) (fun p=>iter (fun s=>f_r17_taken_l1 v0b v1number s) p.1 p.2=some r) (·.1) (n1,0) H (.cons rfl (.rfl' _) (.cons rfl (.rfl' _) (.cons rfl (.rfl' _) (.nil)))) rfl ?_
 rintro ⟨m1,v5il1⟩ HI ih1
 obtain ⟨n1,q1,hm1,H,HK1⟩:=iter_succ HI
 clear HI
 replace H:f_r17_taken_l1 v0b v1number v5il1=some q1:=H
 unfold f_r17_taken_l1 at H
 refine .A 9 [.i (v0b.subs.length:Int)] rfl (s60.n rfl rfl) ?_
 refine .ite H rfl (fun H=>?_) (fun H=>?_)
 ·obtain ⟨hk1,H⟩:=ck_some H
  obtain ⟨y1,hy1,H⟩:=bind_some' H
  refine .A 14 [.d (.ro (Sub.row (nth v0b.subs v5il1.toNat))),.b y1] rfl ⟨g_call (en 9 rfl) rfl rfl (c_f_r17_Has (hy1)),s60.ix rfl rfl rfl hk1⟩ ?_
  refine .ite H rfl (fun H=>?_) (fun H=>?_)
  ·refine .A 4 [] rfl trivial ?_
   refine .R func53 results53 rfl ?_
   cases H
   cases HK1
   exact .m rfl (.rfl' _)
  ·obtain ⟨hk2,H⟩:=ck_some H
   refine .A 7 [.i (v5il1+1)] rfl (g_addI rfl rfl hk2) ?_
   cases H
   exact .z (ih1 (n1,(v5il1+1)) HK1 hm1) rfl rfl
 ·refine .A 5 [] rfl trivial ?_
  refine .R func53 results53 rfl ?_
  cases H
  cases HK1
  exact .m rfl (.rfl' _)
theorem c_f_r17_ofSub {v0:Billingref17Book} {v1:Event} {r:Int} (H:f_r17_ofSub v0 v1=some r):ACall prog 40 [.agg (Billingref17Book.row v0),.agg (Event.row v1)] (·=cI r):=by
 refine ACall.enter' func40 rfl ntmps40 rfl fun S hS=>?_
 unfold f_r17_ofSub at H
 obtain ⟨y1,hy1,H⟩:=bind_some' H
 refine .A 20 [.r 0,.r 1,.i y1] rfl (g_call (en 7 rfl) rfl rfl (c_f_r17_sub (hy1))) ?_
 refine .ite H rfl (fun H=>?_) (fun H=>?_)
 ·refine .A 4 [] rfl trivial ?_
  refine .R func40 results40 rfl ?_
  cases H
  exact .m rfl (.rfl' _)
 ·obtain ⟨y2,hy2,H⟩:=bind_some' H
  refine .A 9 [.b y2] rfl (g_call (en 5 rfl) rfl rfl (c_f_r17_ended (hy2))) ?_
  refine .ite H rfl (fun H=>?_) (fun H=>?_)
  ·refine .A 4 [] rfl trivial ?_
   refine .R func40 results40 rfl ?_
   cases H
   exact .m rfl (.rfl' _)
  ·obtain ⟨hk1,H⟩:=ck_some H
   refine .A 23 [.d (.ro (Sub.row (nth v0.subs y1.toNat))),.r 2] rfl (s60.ix rfl rfl rfl hk1) ?_
   refine .ite H rfl (fun H=>?_) (fun H=>?_)
   ·obtain ⟨y3,hy3,H⟩:=bind_some' H
    refine .A 7 [.b y3] rfl (g_call (en 10 rfl) rfl rfl (c_f_r17_taken (hy3))) ?_
    refine .ite H rfl (fun H=>?_) (fun H=>?_)
    ·refine .A 4 [] rfl trivial ?_
     refine .R func40 results40 rfl ?_
     cases H
     exact .m rfl (.rfl' _)
    ·refine .A 6 [] rfl trivial ?_
     refine .R func40 results40 rfl ?_
     cases H
     exact .m rfl (.rfl' _)
   ·refine .A 5 [] rfl trivial ?_
    refine .ite H rfl (fun H=>?_) (fun H=>?_)
    ·obtain ⟨y4,hy4,H⟩:=bind_some' H
     refine .A 9 [.b y4] rfl (g_call (en 9 rfl) rfl rfl (c_f_r17_Has (hy4))) ?_
     refine .ite H rfl (fun H=>?_) (fun H=>?_)
     ·refine .A 4 [] rfl trivial ?_
      refine .R func40 results40 rfl ?_
      cases H
      exact .m rfl (.rfl' _)
     ·refine .A 6 [] rfl trivial ?_
      refine .R func40 results40 rfl ?_
      cases H
      exact .m rfl (.rfl' _)
    ·refine .A 5 [] rfl trivial ?_
     refine .ite H rfl (fun H=>?_) (fun H=>?_)
     ·obtain ⟨y5,hy5,H⟩:=bind_some' H
      refine .A 8 [.b y5] rfl (g_call (en 9 rfl) rfl rfl (c_f_r17_Has (hy5))) ?_
      refine .ite H rfl (fun H=>?_) (fun H=>?_)
      ·refine .A 4 [] rfl trivial ?_
       refine .R func40 results40 rfl ?_
       cases H
       exact .m rfl (.rfl' _)
      ·refine .A 6 [] rfl trivial ?_
       refine .R func40 results40 rfl ?_
       cases H
       exact .m rfl (.rfl' _)
     ·refine .A 5 [] rfl trivial ?_
      refine .ite H rfl (fun H=>?_) (fun H=>?_)
      ·obtain ⟨y6,hy6,H⟩:=bind_some' H
       refine .A 9 [.b y6] rfl (g_call (en 9 rfl) rfl rfl (c_f_r17_Has (hy6))) ?_
       refine .ite H rfl (fun H=>?_) (fun H=>?_)
       ·refine .A 4 [] rfl trivial ?_
        refine .R func40 results40 rfl ?_
        cases H
        exact .m rfl (.rfl' _)
       ·refine .A 6 [] rfl trivial ?_
        refine .R func40 results40 rfl ?_
        cases H
        exact .m rfl (.rfl' _)
      ·refine .seqJoin (ι:=Bool) (fun v53j1=>[(3,.ref 1 0),(6,.ref 2 0),(23,.d (cI v1.kind)),(53,.d (cB v53j1))]) (fun v53j1=>⟨[.row 67 [.d (slOf 6 Account.row0 v0.accounts),.d (slOf 8 Sub.row v0.subs),.d (slOf 1 rI v0.ended)],.row 43 [.d (cI v1.at_),.d (cI v1.kind),.d (cI v1.account),.d (cI v1.sub),.d (cS v1.number),.d (cS v1.name),.d (cI v1.value)],.row 38 [.d (cI ((nth v0.subs y1.toNat).id)),.d (cI ((nth v0.subs y1.toNat).account)),.d (cI ((nth v0.subs y1.toNat).since)),.d (cS ((nth v0.subs y1.toNat).plan)),.d (slOf 1 rS ((nth v0.subs y1.toNat).numbers)),.d (slOf 1 rS ((nth v0.subs y1.toNat).products)),.d (cB ((nth v0.subs y1.toNat).suspended)),.d (cB ((nth v0.subs y1.toNat).family))]],[]⟩) (fun s=>f_r17_ofSub_j1 v0 v1 y1 s=some r) ?_ ?_
       ·rintro v53j1 H
        replace H:f_r17_ofSub_j1 v0 v1 y1 v53j1=some r:=H
        unfold f_r17_ofSub_j1 at H
        refine .ite H rfl (fun H=>?_) (fun H=>?_)
        ·refine .A 9 [.b (((nth v0.subs y1.toNat).suspended)==(v1.kind==10))] rfl (OpQ.g (q_beql rfl underlying4 rfl)) ?_
         refine .ite H rfl (fun H=>?_) (fun H=>?_)
         ·refine .A 4 [] rfl trivial ?_
          refine .R func40 results40 rfl ?_
          cases H
          exact .m rfl (.rfl' _)
         ·refine .A 6 [] rfl trivial ?_
          refine .R func40 results40 rfl ?_
          cases H
          exact .m rfl (.rfl' _)
        ·refine .seqJoin (ι:=Bool) (fun v62j2=>[(3,.ref 1 0),(6,.ref 2 0),(62,.d (cB v62j2))]) (fun v62j2=>⟨[.row 67 [.d (slOf 6 Account.row0 v0.accounts),.d (slOf 8 Sub.row v0.subs),.d (slOf 1 rI v0.ended)],.row 43 [.d (cI v1.at_),.d (cI v1.kind),.d (cI v1.account),.d (cI v1.sub),.d (cS v1.number),.d (cS v1.name),.d (cI v1.value)],.row 38 [.d (cI ((nth v0.subs y1.toNat).id)),.d (cI ((nth v0.subs y1.toNat).account)),.d (cI ((nth v0.subs y1.toNat).since)),.d (cS ((nth v0.subs y1.toNat).plan)),.d (slOf 1 rS ((nth v0.subs y1.toNat).numbers)),.d (slOf 1 rS ((nth v0.subs y1.toNat).products)),.d (cB ((nth v0.subs y1.toNat).suspended)),.d (cB ((nth v0.subs y1.toNat).family))]],[]⟩) (fun s=>f_r17_ofSub_j2 v0 v1 y1 s=some r) ?_ ?_
         ·rintro v62j2 H
          replace H:f_r17_ofSub_j2 v0 v1 y1 v62j2=some r:=H
          unfold f_r17_ofSub_j2 at H
          refine .ite H rfl (fun H=>?_) (fun H=>?_)
          ·refine .A 9 [.b (((nth v0.subs y1.toNat).family)==(v1.kind==12))] rfl (OpQ.g (q_beql rfl underlying4 rfl)) ?_
           refine .ite H rfl (fun H=>?_) (fun H=>?_)
           ·refine .A 4 [] rfl trivial ?_
            refine .R func40 results40 rfl ?_
            cases H
            exact .m rfl (.rfl' _)
           ·refine .A 6 [] rfl trivial ?_
            refine .R func40 results40 rfl ?_
            cases H
            exact .m rfl (.rfl' _)
          ·refine .A 6 [] rfl trivial ?_
           refine .R func40 results40 rfl ?_
           cases H
           exact .m rfl (.rfl' _)
         ·intro hj2
          refine .A 5 [] rfl trivial ?_
          refine .ite H rfl (fun H=>?_) (fun H=>?_)
          ·refine .A 1 [] rfl trivial ?_
           exact .z (hj2 (v1.kind==12) H) rfl rfl
          ·refine .A 4 [] rfl trivial ?_
           exact .z (hj2 (v1.kind==13) H) rfl rfl
       ·intro hj1
        refine .A 5 [] rfl trivial ?_
        refine .ite H rfl (fun H=>?_) (fun H=>?_)
        ·refine .A 1 [] rfl trivial ?_
         exact .z (hj1 (v1.kind==10) H) rfl rfl
        ·refine .A 4 [] rfl trivial ?_
         exact .z (hj1 (v1.kind==11) H) rfl rfl
theorem c_f_r17_Fault {v0b:Billingref17Book} {v1e:Event} {v2last:Int} {r:Int} (H:f_r17_Fault v0b v1e v2last=some r):ACall prog 29 [.agg (Billingref17Book.row v0b),.agg (Event.row v1e),cI v2last] (·=cI r):=by
 obtain ⟨i4,hi4,hz4,hs4,hb4⟩:=in_4
 refine ACall.enter' func29 rfl ntmps29 rfl fun S hS=>?_
 unfold f_r17_Fault at H
 obtain ⟨y1,hy1,H⟩:=bind_some' H
 refine .A 19 [.r 0,.r 1,.i y1] rfl (g_call (en 11 rfl) rfl rfl (c_f_r17_form (hy1))) ?_
 refine .ite H rfl (fun H=>?_) (fun H=>?_)
 ·refine .A 5 [] rfl trivial ?_
  refine .R func29 results29 rfl ?_
  cases H
  exact .m rfl (.rfl' _)
 ·obtain ⟨y2,hy2,H⟩:=bind_some' H
  refine .A 9 [.d (.agg [cB (nth y2 0),cB (nth y2 1),cB (nth y2 2),cB (nth y2 3),cB (nth y2 4)]),.b (nth y2 0)] rfl ⟨OpQ.g (q_indexA (m:=0) underlying79 one_4 hi4 hs4 rfl rfl rfl (by decide) rfl),g_call (en 0 rfl) rfl rfl (c_f_r17_uses (hy2))⟩ ?_
  refine .ite H rfl (fun H=>?_) (fun H=>?_)
  ·obtain ⟨y3,hy3,H⟩:=bind_some' H
   refine .A 7 [.i y3] rfl (g_call (en 12 rfl) rfl rfl (c_f_r17_ofAccount (hy3))) ?_
   refine .R func29 results29 rfl ?_
   cases H
   exact .m rfl (.rfl' _)
  ·obtain ⟨y4,hy4,H⟩:=bind_some' H
   refine .A 8 [.i y4] rfl (g_call (en 13 rfl) rfl rfl (c_f_r17_ofSub (hy4))) ?_
   refine .R func29 results29 rfl ?_
   cases H
   exact .m rfl (.rfl' _)
theorem c_f_r17_With {v0l:List (List UInt8)} {v1s:List UInt8} {r:(List (List UInt8))} (H:f_r17_With v0l v1s=some r):ACall prog 54 [slOf 1 rS v0l,cS v1s] (·=slOf 1 rS r):=by
 obtain ⟨i9,hi9,hz9,hs9,hb9⟩:=in_9
 refine ACall.enter' func54 rfl ntmps54 rfl fun S hS=>?_
 unfold f_r17_With at H
 refine .A 9 [] rfl trivial ?_
 refine .blockJoin2 (ι:=Int) (fun v5atj1=>[(0,.d (slOf 1 rS v0l)),(1,.d (cS v1s)),(5,.d (cI v5atj1))]) (fun v5atj1=>⟨[],[]⟩) (fun s=>f_r17_With_j1 v0l v1s s=some r) ?_ ?_
 ·rintro v5atj1 H
  replace H:f_r17_With_j1 v0l v1s v5atj1=some r:=H
  unfold f_r17_With_j1 at H
  obtain ⟨hk1,H⟩:=ck_some H
  obtain ⟨hk2,H⟩:=ck_some H
  obtain ⟨hk3,H⟩:=ck_some H
  obtain ⟨hk4,H⟩:=ck_some H
  obtain ⟨hk5,H⟩:=ck_some H
  refine .A 26 [.n (.tsl 1 (([]:List (List UInt8)).map rS) 0) ⟨9,1,([]:List (List UInt8)).length,none⟩,.d (slOf 1 rS (v0l.take v5atj1.toNat)),.a 0 9 1 rS (([]:List (List UInt8))++(v0l.take v5atj1.toNat)),.d (slOf 1 rS ([v1s]:List (List UInt8))),.a 0 9 1 rS ((([]:List (List UInt8))++(v0l.take v5atj1.toNat))++([v1s]:List (List UInt8))),.d (slOf 1 rS (v0l.drop v5atj1.toNat)),.a 0 9 1 rS (((([]:List (List UInt8))++(v0l.take v5atj1.toNat))++([v1s]:List (List UInt8)))++(v0l.drop v5atj1.toNat))] rfl ⟨s36.a rfl rfl rfl rfl hk5,OpQ.g (q_slLL (l:=v0l) (row:=rS) underlying36 hi9 hs9 rfl rfl rfl hk4),s36.a rfl rfl rfl rfl hk3,g_buildSlice1 underlying36 hi9 hs9 hz9 rfl rfl rfl rfl rfl,s36.a rfl rfl rfl rfl hk2,OpQ.g (q_slHL (l:=v0l) (row:=rS) underlying36 hi9 hs9 rfl rfl rfl hk1),.e (v_build0T underlying36 hi9 hs9) rfl⟩ ?_
  refine .R func54 results54 rfl ?_
  cases H
  exact .m rfl (.tsl _ _ _)
 ·intro hj1 hj1x
  obtain ⟨n1,H⟩:=loop_some H
  refine .loop (ι:=Nat×(Int)) (fun ⟨_,v5atl1⟩=>[(0,.d (slOf 1 rS v0l)),(1,.d (cS v1s)),(5,.d (cI v5atl1))]) (fun ⟨_,v5atl1⟩=>⟨[],[]⟩) (fun p=>iter (fun s=>f_r17_With_l1 v0l v1s s) p.1 p.2=some r) (·.1) (n1,0) H (.cons rfl (.rfl' _) (.cons rfl (.rfl' _) (.cons rfl (.rfl' _) (.nil)))) rfl ?_
  rintro ⟨m1,v5atl1⟩ HI ih1
  obtain ⟨n1,q1,hm1,H,HK1⟩:=iter_succ HI
  clear HI
  replace H:f_r17_With_l1 v0l v1s v5atl1=some q1:=H
  unfold f_r17_With_l1 at H
  obtain ⟨hk6,H⟩:=ck_some H
  refine .A 16 [.i (v0l.length:Int),.d (.ro (rS (nth v0l v5atl1.toNat))),.b (strlss (nth v0l v5atl1.toNat) v1s)] rfl ⟨rfl,fun hg=>OpQ.g (q_slss rfl rfl),rfl,rfl,rfl,fun hg=>s36.ix rfl rfl rfl (hk6 hg),rfl,rfl,s36.n rfl rfl⟩ ?_
  refine .ite H rfl (fun H=>?_) (fun H=>?_)
  ·obtain ⟨hk7,H⟩:=ck_some H
   refine .A 8 [.i (v5atl1+1)] rfl (g_addI rfl rfl hk7) ?_
   cases H
   exact .z (ih1 (n1,(v5atl1+1)) HK1 hm1) rfl rfl
  ·refine .A 1 [] rfl trivial ?_
   obtain ⟨q0,H9,hq0⟩:=map_some' H; clear H; cases hq0
   cases HK1
   have H:=H9
   exact .z (hj1x v5atl1 H) rfl rfl
theorem c_f_r17_Without {v0l:List (List UInt8)} {v1s:List UInt8} {r:(List (List UInt8))} (H:f_r17_Without v0l v1s=some r):ACall prog 55 [slOf 1 rS v0l,cS v1s] (·=slOf 1 rS r):=by
 obtain ⟨i9,hi9,hz9,hs9,hb9⟩:=in_9
 refine ACall.enter' func55 rfl ntmps55 rfl fun S hS=>?_
 unfold f_r17_Without at H
 refine .A 14 [] rfl trivial ?_
 refine .tok (i:=5) (e:=9) (sz:=1) rfl ?_
 obtain ⟨n1,H⟩:=loop_some H
 refine .loop (ι:=Nat×(List (List UInt8)×Int)) (fun ⟨_,v5outl1,v6il1⟩=>[(0,.d (slOf 1 rS v0l)),(1,.d (cS v1s)),(5,.tsl 1 (v5outl1.map rS) 0),(6,.d (cI v6il1))]) (fun ⟨_,v5outl1,v6il1⟩=>⟨[],[⟨9,1,v5outl1.length,none⟩]⟩) (fun p=>iter (fun s=>f_r17_Without_l1 v0l v1s s.1 s.2) p.1 p.2=some r) (·.1) (n1,(([]:List (List UInt8)),0)) H (.cons rfl (.rfl' _) (.cons rfl (.rfl' _) (.cons rfl (.rfl' _) (.cons rfl (.rfl' _) (.nil))))) rfl ?_
 rintro ⟨m1,v5outl1,v6il1⟩ HI ih1
 obtain ⟨n1,q1,hm1,H,HK1⟩:=iter_succ HI
 clear HI
 replace H:f_r17_Without_l1 v0l v1s v5outl1 v6il1=some q1:=H
 unfold f_r17_Without_l1 at H
 refine .A 8 [.i (v0l.length:Int)] rfl (s36.n rfl rfl) ?_
 refine .ite H rfl (fun H=>?_) (fun H=>?_)
 ·obtain ⟨hk1,H⟩:=ck_some H
  refine .A 12 [.d (.ro (rS (nth v0l v6il1.toNat)))] rfl (s36.ix rfl rfl rfl hk1) ?_
  refine .ite H rfl (fun H=>?_) (fun H=>?_)
  ·obtain ⟨hk2,H⟩:=ck_some H
   obtain ⟨hk3,H⟩:=ck_some H
   obtain ⟨hk4,H⟩:=ck_some H
   refine .A 16 [.d (.ro (rS (nth v0l v6il1.toNat))),.d (slOf 1 rS ([nth v0l v6il1.toNat]:List (List UInt8))),.a 0 9 1 rS (v5outl1++([nth v0l v6il1.toNat]:List (List UInt8))),.i (v6il1+1)] rfl ⟨g_addI rfl rfl hk4,s36.a rfl rfl rfl rfl hk3,g_buildSlice1 underlying36 hi9 hs9 hz9 rfl rfl rfl rfl rfl,s36.ix rfl rfl rfl hk2⟩ ?_
   cases H
   exact .z (ih1 (n1,(v5outl1++([nth v0l v6il1.toNat]:List (List UInt8)),v6il1+1)) HK1 hm1) rfl rfl
  ·obtain ⟨hk5,H⟩:=ck_some H
   refine .A 7 [.i (v6il1+1)] rfl (g_addI rfl rfl hk5) ?_
   cases H
   exact .z (ih1 (n1,(v5outl1,v6il1+1)) HK1 hm1) rfl rfl
 ·refine .A 6 [] rfl trivial ?_
  refine .R func55 results55 rfl ?_
  cases H
  cases HK1
  exact .m rfl (.tsl _ _ _)
theorem c_f_r17_changed {v0s:Sub} {v1e:Event} {r:Sub} (H:f_r17_changed v0s v1e=some r):ACall prog 41 [.agg (Sub.row v0s),.agg (Event.row v1e)] (·=.agg (Sub.row r)):=by
 refine ACall.enter' func41 rfl ntmps41 rfl fun S hS=>?_
 unfold f_r17_changed at H
 refine .A 18 [.r 0,.r 1,.r 2] rfl trivial ?_
 refine .ite H rfl (fun H=>?_) (fun H=>?_)
 ·refine .A 15 [] rfl trivial ?_
  refine .R func41 results41 rfl ?_
  cases H
  exact .m rfl (.d (.agg ⟨.rfl' _,.rfl' _,.rfl' _,.rfl' _,.nil 1,.nil 1,.rfl' _,.rfl' _,trivial⟩))
 ·refine .A 5 [] rfl trivial ?_
  refine .ite H rfl (fun H=>?_) (fun H=>?_)
  ·obtain ⟨y1,hy1,H⟩:=bind_some' H
   refine .A 15 [.d (slOf 1 rS y1)] rfl (g_call (en 14 rfl) rfl rfl (c_f_r17_With (hy1))) ?_
   refine .R func41 results41 rfl ?_
   cases H
   exact .m rfl (.rfl' _)
  ·refine .A 5 [] rfl trivial ?_
   refine .ite H rfl (fun H=>?_) (fun H=>?_)
   ·obtain ⟨y2,hy2,H⟩:=bind_some' H
    refine .A 15 [.d (slOf 1 rS y2)] rfl (g_call (en 15 rfl) rfl rfl (c_f_r17_Without (hy2))) ?_
    refine .R func41 results41 rfl ?_
    cases H
    exact .m rfl (.rfl' _)
   ·refine .A 5 [] rfl trivial ?_
    refine .ite H rfl (fun H=>?_) (fun H=>?_)
    ·refine .A 12 [] rfl trivial ?_
     refine .R func41 results41 rfl ?_
     cases H
     exact .m rfl (.rfl' _)
    ·refine .A 5 [] rfl trivial ?_
     refine .ite H rfl (fun H=>?_) (fun H=>?_)
     ·obtain ⟨y3,hy3,H⟩:=bind_some' H
      refine .A 15 [.d (slOf 1 rS y3)] rfl (g_call (en 14 rfl) rfl rfl (c_f_r17_With (hy3))) ?_
      refine .R func41 results41 rfl ?_
      cases H
      exact .m rfl (.rfl' _)
     ·refine .A 5 [] rfl trivial ?_
      refine .ite H rfl (fun H=>?_) (fun H=>?_)
      ·obtain ⟨y4,hy4,H⟩:=bind_some' H
       refine .A 15 [.d (slOf 1 rS y4)] rfl (g_call (en 15 rfl) rfl rfl (c_f_r17_Without (hy4))) ?_
       refine .R func41 results41 rfl ?_
       cases H
       exact .m rfl (.rfl' _)
      ·refine .A 5 [] rfl trivial ?_
       refine .ite H rfl (fun H=>?_) (fun H=>?_)
       ·refine .A 10 [] rfl trivial ?_
        refine .R func41 results41 rfl ?_
        cases H
        exact .m rfl (.rfl' _)
       ·refine .A 5 [] rfl trivial ?_
        refine .ite H rfl (fun H=>?_) (fun H=>?_)
        ·refine .A 10 [] rfl trivial ?_
         refine .R func41 results41 rfl ?_
         cases H
         exact .m rfl (.rfl' _)
        ·refine .A 5 [] rfl trivial ?_
         refine .ite H rfl (fun H=>?_) (fun H=>?_)
         ·refine .A 10 [] rfl trivial ?_
          refine .R func41 results41 rfl ?_
          cases H
          exact .m rfl (.rfl' _)
         ·refine .A 5 [] rfl trivial ?_
          refine .ite H rfl (fun H=>?_) (fun H=>?_)
          ·refine .A 10 [] rfl trivial ?_
           refine .R func41 results41 rfl ?_
           cases H
           exact .m rfl (.rfl' _)
          ·refine .A 7 [] rfl trivial ?_
           refine .R func41 results41 rfl ?_
           cases H
           exact .m rfl (.rfl' _)
theorem c_f_r17_Apply {v0:Billingref17Book} {v1:Event} {r:Billingref17Book} (H:f_r17_Apply v0 v1=some r):ACall prog 30 [.agg (Billingref17Book.row v0),.agg (Event.row v1)] (·=.agg (Billingref17Book.row r)):=by
 obtain ⟨i3,hi3,hz3,hs3,hb3⟩:=in_3
 obtain ⟨i38,hi38,hz38,hs38,hb38⟩:=in_38
 obtain ⟨i67,hi67,hz67,hs67,hb67⟩:=in_67
 obtain ⟨i77,hi77,hz77,hs77,hb77⟩:=in_77
 refine ACall.enter' func30 rfl ntmps30 rfl fun S hS=>?_
 unfold f_r17_Apply at H
 refine .A 7 [.r 0,.r 1,.r 2] rfl trivial ?_
 refine .tokP (e:=77) (sz:=6) ?_
 refine .tokP (e:=38) (sz:=8) ?_
 refine .tokP (e:=3) (sz:=1) ?_
 obtain ⟨hk1,H⟩:=ck_some H
 obtain ⟨hk2,H⟩:=ck_some H
 obtain ⟨hk3,H⟩:=ck_some H
 refine .parts 14 [3,7,11,13] [⟨[.row 67 [.d (slOf 6 Account.row0 v0.accounts),.d (slOf 8 Sub.row v0.subs),.d (slOf 1 rI v0.ended)],.row 43 [.d (cI v1.at_),.d (cI v1.kind),.d (cI v1.account),.d (cI v1.sub),.d (cS v1.number),.d (cS v1.name),.d (cI v1.value)],.row 67 [.d (nilD),.d (nilD),.d (nilD)]],[⟨77,6,0,some (([]:List Account).map Account.row0)⟩,⟨38,8,0,some (([]:List Sub).map Sub.row)⟩,⟨3,1,0,some (([]:List Int).map rI)⟩]⟩,⟨[.row 67 [.d (slOf 6 Account.row0 v0.accounts),.d (slOf 8 Sub.row v0.subs),.d (slOf 1 rI v0.ended)],.row 43 [.d (cI v1.at_),.d (cI v1.kind),.d (cI v1.account),.d (cI v1.sub),.d (cS v1.number),.d (cS v1.name),.d (cI v1.value)],.row 67 [.d (nilD),.d (nilD),.d (nilD)]],[⟨77,6,((([]:List Account)++v0.accounts).length),some ((([]:List Account)++v0.accounts).map Account.row0)⟩,⟨38,8,0,some (([]:List Sub).map Sub.row)⟩,⟨3,1,0,some (([]:List Int).map rI)⟩]⟩,⟨[.row 67 [.d (slOf 6 Account.row0 v0.accounts),.d (slOf 8 Sub.row v0.subs),.d (slOf 1 rI v0.ended)],.row 43 [.d (cI v1.at_),.d (cI v1.kind),.d (cI v1.account),.d (cI v1.sub),.d (cS v1.number),.d (cS v1.name),.d (cI v1.value)],.row 67 [.d (nilD),.d (nilD),.d (nilD)]],[⟨77,6,0,some (([]:List Account).map Account.row0)⟩,⟨38,8,0,some (([]:List Sub).map Sub.row)⟩,⟨3,1,0,some (([]:List Int).map rI)⟩]⟩,⟨[.row 67 [.d (slOf 6 Account.row0 v0.accounts),.d (slOf 8 Sub.row v0.subs),.d (slOf 1 rI v0.ended)],.row 43 [.d (cI v1.at_),.d (cI v1.kind),.d (cI v1.account),.d (cI v1.sub),.d (cS v1.number),.d (cS v1.name),.d (cI v1.value)],.row 67 [.d (nilD),.d (nilD),.d (nilD)]],[⟨77,6,((([]:List Account)++v0.accounts).length),some ((([]:List Account)++v0.accounts).map Account.row0)⟩,⟨38,8,((([]:List Sub)++v0.subs).length),some ((([]:List Sub)++v0.subs).map Sub.row)⟩,⟨3,1,0,some (([]:List Int).map rI)⟩]⟩,⟨[.row 67 [.d (slOf 6 Account.row0 v0.accounts),.d (slOf 8 Sub.row v0.subs),.d (slOf 1 rI v0.ended)],.row 43 [.d (cI v1.at_),.d (cI v1.kind),.d (cI v1.account),.d (cI v1.sub),.d (cS v1.number),.d (cS v1.name),.d (cI v1.value)],.row 67 [.d (nilD),.d (nilD),.d (nilD)]],[⟨77,6,0,some (([]:List Account).map Account.row0)⟩,⟨38,8,0,some (([]:List Sub).map Sub.row)⟩,⟨3,1,0,some (([]:List Int).map rI)⟩]⟩,⟨[.row 67 [.d (slOf 6 Account.row0 v0.accounts),.d (slOf 8 Sub.row v0.subs),.d (slOf 1 rI v0.ended)],.row 43 [.d (cI v1.at_),.d (cI v1.kind),.d (cI v1.account),.d (cI v1.sub),.d (cS v1.number),.d (cS v1.name),.d (cI v1.value)],.row 67 [.d (nilD),.d (nilD),.d (nilD)]],[⟨77,6,0,some (([]:List Account).map Account.row0)⟩,⟨38,8,0,some (([]:List Sub).map Sub.row)⟩,⟨3,1,0,some (([]:List Int).map rI)⟩]⟩,⟨[.row 67 [.d (slOf 6 Account.row0 v0.accounts),.d (slOf 8 Sub.row v0.subs),.d (slOf 1 rI v0.ended)],.row 43 [.d (cI v1.at_),.d (cI v1.kind),.d (cI v1.account),.d (cI v1.sub),.d (cS v1.number),.d (cS v1.name),.d (cI v1.value)],.row 67 [.d (nilD),.d (nilD),.d (nilD)]],[⟨77,6,0,some (([]:List Account).map Account.row0)⟩,⟨38,8,0,some (([]:List Sub).map Sub.row)⟩,⟨3,1,0,some (([]:List Int).map rI)⟩]⟩,⟨[.row 67 [.d (slOf 6 Account.row0 v0.accounts),.d (slOf 8 Sub.row v0.subs),.d (slOf 1 rI v0.ended)],.row 43 [.d (cI v1.at_),.d (cI v1.kind),.d (cI v1.account),.d (cI v1.sub),.d (cS v1.number),.d (cS v1.name),.d (cI v1.value)],.row 67 [.d (nilD),.d (nilD),.d (nilD)]],[⟨77,6,((([]:List Account)++v0.accounts).length),some ((([]:List Account)++v0.accounts).map Account.row0)⟩,⟨38,8,((([]:List Sub)++v0.subs).length),some ((([]:List Sub)++v0.subs).map Sub.row)⟩,⟨3,1,((([]:List Int)++v0.ended).length),some ((([]:List Int)++v0.ended).map rI)⟩]⟩,⟨[.row 67 [.d (slOf 6 Account.row0 v0.accounts),.d (slOf 8 Sub.row v0.subs),.d (slOf 1 rI v0.ended)],.row 43 [.d (cI v1.at_),.d (cI v1.kind),.d (cI v1.account),.d (cI v1.sub),.d (cS v1.number),.d (cS v1.name),.d (cI v1.value)],.row 67 [.d (nilD),.d (nilD),.d (nilD)],.row 67 [.d (nilD),.d (nilD),.d (nilD)]],[⟨77,6,0,some (([]:List Account).map Account.row0)⟩,⟨38,8,0,some (([]:List Sub).map Sub.row)⟩,⟨3,1,0,some (([]:List Int).map rI)⟩]⟩,⟨[.row 67 [.d (slOf 6 Account.row0 v0.accounts),.d (slOf 8 Sub.row v0.subs),.d (slOf 1 rI v0.ended)],.row 43 [.d (cI v1.at_),.d (cI v1.kind),.d (cI v1.account),.d (cI v1.sub),.d (cS v1.number),.d (cS v1.name),.d (cI v1.value)],.row 67 [.d (nilD),.d (nilD),.d (nilD)],.row 67 [.d (nilD),.d (nilD),.d (nilD)]],[⟨77,6,((([]:List Account)++v0.accounts).length),some ((([]:List Account)++v0.accounts).map Account.row0)⟩,⟨38,8,0,some (([]:List Sub).map Sub.row)⟩,⟨3,1,0,some (([]:List Int).map rI)⟩]⟩,⟨[.row 67 [.d (slOf 6 Account.row0 v0.accounts),.d (slOf 8 Sub.row v0.subs),.d (slOf 1 rI v0.ended)],.row 43 [.d (cI v1.at_),.d (cI v1.kind),.d (cI v1.account),.d (cI v1.sub),.d (cS v1.number),.d (cS v1.name),.d (cI v1.value)],.row 67 [.d (nilD),.d (nilD),.d (nilD)]],[⟨77,6,0,some (([]:List Account).map Account.row0)⟩,⟨38,8,0,some (([]:List Sub).map Sub.row)⟩,⟨3,1,0,some (([]:List Int).map rI)⟩]⟩,⟨[.row 67 [.d (slOf 6 Account.row0 v0.accounts),.d (slOf 8 Sub.row v0.subs),.d (slOf 1 rI v0.ended)],.row 43 [.d (cI v1.at_),.d (cI v1.kind),.d (cI v1.account),.d (cI v1.sub),.d (cS v1.number),.d (cS v1.name),.d (cI v1.value)],.row 67 [.d (nilD),.d (nilD),.d (nilD)],.row 67 [.d (nilD),.d (nilD),.d (nilD)]],[⟨77,6,((([]:List Account)++v0.accounts).length),some ((([]:List Account)++v0.accounts).map Account.row0)⟩,⟨38,8,((([]:List Sub)++v0.subs).length),some ((([]:List Sub)++v0.subs).map Sub.row)⟩,⟨3,1,0,some (([]:List Int).map rI)⟩]⟩,⟨[.row 67 [.d (slOf 6 Account.row0 v0.accounts),.d (slOf 8 Sub.row v0.subs),.d (slOf 1 rI v0.ended)],.row 43 [.d (cI v1.at_),.d (cI v1.kind),.d (cI v1.account),.d (cI v1.sub),.d (cS v1.number),.d (cS v1.name),.d (cI v1.value)],.row 67 [.d (nilD),.d (nilD),.d (nilD)]],[⟨77,6,0,some (([]:List Account).map Account.row0)⟩,⟨38,8,0,some (([]:List Sub).map Sub.row)⟩,⟨3,1,0,some (([]:List Int).map rI)⟩]⟩,⟨[.row 67 [.d (slOf 6 Account.row0 v0.accounts),.d (slOf 8 Sub.row v0.subs),.d (slOf 1 rI v0.ended)],.row 43 [.d (cI v1.at_),.d (cI v1.kind),.d (cI v1.account),.d (cI v1.sub),.d (cS v1.number),.d (cS v1.name),.d (cI v1.value)],.row 67 [.d (nilD),.d (nilD),.d (nilD)]],[⟨77,6,0,some (([]:List Account).map Account.row0)⟩,⟨38,8,0,some (([]:List Sub).map Sub.row)⟩,⟨3,1,0,some (([]:List Int).map rI)⟩]⟩,⟨[.row 67 [.d (slOf 6 Account.row0 v0.accounts),.d (slOf 8 Sub.row v0.subs),.d (slOf 1 rI v0.ended)],.row 43 [.d (cI v1.at_),.d (cI v1.kind),.d (cI v1.account),.d (cI v1.sub),.d (cS v1.number),.d (cS v1.name),.d (cI v1.value)],.row 67 [.d (nilD),.d (nilD),.d (nilD)]],[⟨77,6,0,some (([]:List Account).map Account.row0)⟩,⟨38,8,0,some (([]:List Sub).map Sub.row)⟩,⟨3,1,0,some (([]:List Int).map rI)⟩]⟩,⟨[.row 67 [.d (slOf 6 Account.row0 v0.accounts),.d (slOf 8 Sub.row v0.subs),.d (slOf 1 rI v0.ended)],.row 43 [.d (cI v1.at_),.d (cI v1.kind),.d (cI v1.account),.d (cI v1.sub),.d (cS v1.number),.d (cS v1.name),.d (cI v1.value)],.row 67 [.d (nilD),.d (nilD),.d (nilD)],.row 67 [.d (nilD),.d (nilD),.d (nilD)]],[⟨77,6,((([]:List Account)++v0.accounts).length),some ((([]:List Account)++v0.accounts).map Account.row0)⟩,⟨38,8,((([]:List Sub)++v0.subs).length),some ((([]:List Sub)++v0.subs).map Sub.row)⟩,⟨3,1,((([]:List Int)++v0.ended).length),some ((([]:List Int)++v0.ended).map rI)⟩]⟩] hMix (by kernel_rfl) rfl (by decide) rfl ?_
 show NOps _ _ _ _ _ _ _ _ _ _ (_ :: _) _ _
 refine .g (x:=.d (.e0 6)) [0,8] ⟨⟨_,rfl,(hs77▸g_buildSlice0 underlying59 hi77)⟩,⟨_,rfl,(hs77▸g_buildSlice0 underlying59 hi77)⟩,trivial⟩ rfl (by kernel_rfl) rfl ?_
 refine .s (x:=.ref 0 0) (fun s=>q_fieldRef fo_67_0 rfl) rfl rfl ?_
 refine .g (x:=.d (slOf 6 Account.row0 v0.accounts)) [0,8] ⟨⟨_,rfl,OpQ.g (q_loadO one_59 rfl rfl rfl)⟩,⟨_,rfl,OpQ.g (q_loadO one_59 rfl rfl rfl)⟩,trivial⟩ rfl (by kernel_rfl) rfl ?_
 refine .v (x:=.vc 0 ((([]:List Account)++v0.accounts).length)) 0 [0,8] ⟨⟨_,_,rfl,rfl,v_append0P (l':=v0.accounts) (row:=Account.row0) underlying59 hi77 hz77 hs77 rfl (by rw [hb77]; decide) rfl (.inl rfl) rfl rfl rfl hk1⟩,⟨_,_,rfl,rfl,v_append0P (l':=v0.accounts) (row:=Account.row0) underlying59 hi77 hz77 hs77 rfl (by rw [hb77]; decide) rfl (.inl rfl) rfl rfl rfl hk1⟩,trivial⟩ rfl (by kernel_rfl) rfl ?_
 refine .g (x:=.d (.e0 8)) [0,1,8,9] ⟨⟨_,rfl,(hs38▸g_buildSlice0 underlying60 hi38)⟩,⟨_,rfl,(hs38▸g_buildSlice0 underlying60 hi38)⟩,⟨_,rfl,(hs38▸g_buildSlice0 underlying60 hi38)⟩,⟨_,rfl,(hs38▸g_buildSlice0 underlying60 hi38)⟩,trivial⟩ rfl (by kernel_rfl) rfl ?_
 refine .s (x:=.ref 0 1) (fun s=>q_fieldRef fo_67_1 rfl) rfl rfl ?_
 refine .g (x:=.d (slOf 8 Sub.row v0.subs)) [0,1,8,9] ⟨⟨_,rfl,OpQ.g (q_loadO one_60 rfl rfl rfl)⟩,⟨_,rfl,OpQ.g (q_loadO one_60 rfl rfl rfl)⟩,⟨_,rfl,OpQ.g (q_loadO one_60 rfl rfl rfl)⟩,⟨_,rfl,OpQ.g (q_loadO one_60 rfl rfl rfl)⟩,trivial⟩ rfl (by kernel_rfl) rfl ?_
 refine .v (x:=.vc 1 ((([]:List Sub)++v0.subs).length)) 1 [1,9] ⟨⟨_,_,rfl,rfl,v_append0P (l':=v0.subs) (row:=Sub.row) underlying60 hi38 hz38 hs38 rfl (by rw [hb38]; decide) rfl (.inl rfl) rfl rfl rfl hk2⟩,⟨_,_,rfl,rfl,v_append0P (l':=v0.subs) (row:=Sub.row) underlying60 hi38 hz38 hs38 rfl (by rw [hb38]; decide) rfl (.inl rfl) rfl rfl rfl hk2⟩,trivial⟩ rfl (by kernel_rfl) rfl ?_
 refine .g (x:=.d (.e0 1)) [0,1,3,8,9,11] ⟨⟨_,rfl,(hs3▸g_buildSlice0 underlying65 hi3)⟩,⟨_,rfl,(hs3▸g_buildSlice0 underlying65 hi3)⟩,⟨_,rfl,(hs3▸g_buildSlice0 underlying65 hi3)⟩,⟨_,rfl,(hs3▸g_buildSlice0 underlying65 hi3)⟩,⟨_,rfl,(hs3▸g_buildSlice0 underlying65 hi3)⟩,⟨_,rfl,(hs3▸g_buildSlice0 underlying65 hi3)⟩,trivial⟩ rfl (by kernel_rfl) rfl ?_
 refine .s (x:=.ref 0 2) (fun s=>q_fieldRef fo_67_2 rfl) rfl rfl ?_
 refine .g (x:=.d (slOf 1 rI v0.ended)) [0,1,3,8,9,11] ⟨⟨_,rfl,OpQ.g (q_loadO one_65 rfl rfl rfl)⟩,⟨_,rfl,OpQ.g (q_loadO one_65 rfl rfl rfl)⟩,⟨_,rfl,OpQ.g (q_loadO one_65 rfl rfl rfl)⟩,⟨_,rfl,OpQ.g (q_loadO one_65 rfl rfl rfl)⟩,⟨_,rfl,OpQ.g (q_loadO one_65 rfl rfl rfl)⟩,⟨_,rfl,OpQ.g (q_loadO one_65 rfl rfl rfl)⟩,trivial⟩ rfl (by kernel_rfl) rfl ?_
 refine .v (x:=.vc 2 ((([]:List Int)++v0.ended).length)) 2 [3,11] ⟨⟨_,_,rfl,rfl,v_append0P (l':=v0.ended) (row:=rI) underlying65 hi3 hz3 hs3 rfl (by rw [hb3]; decide) rfl (.inl rfl) rfl rfl rfl hk3⟩,⟨_,_,rfl,rfl,v_append0P (l':=v0.ended) (row:=rI) underlying65 hi3 hz3 hs3 rfl (by rw [hb3]; decide) rfl (.inl rfl) rfl rfl rfl hk3⟩,trivial⟩ rfl (by kernel_rfl) rfl ?_
 refine .s (x:=.agg [.vc 0 ((([]:List Account)++v0.accounts).length),.vc 1 ((([]:List Sub)++v0.subs).length),.vc 2 ((([]:List Int)++v0.ended).length)]) (fun s=>q_buildE pl_67 hi67 hz67 rfl rfl) rfl rfl ?_
 refine .v (x:=.ref 3 0) 3 [0,1,3,7] ⟨⟨_,_,rfl,rfl,v_alloc zr_67 rfl⟩,⟨_,_,rfl,rfl,v_alloc zr_67 rfl⟩,⟨_,_,rfl,rfl,v_alloc zr_67 rfl⟩,⟨_,_,rfl,rfl,v_alloc zr_67 rfl⟩,trivial⟩ rfl (by kernel_rfl) rfl ?_
 refine .nil rfl ?_
 show AOps _ _ _ _ _ _ (_ :: _) _ _ _
 refine .A 14 [] rfl trivial ?_
 refine .ite H rfl (fun H=>?_) (fun H=>?_)
 ·obtain ⟨hk4,H⟩:=ck_some H
  refine .B 21 [.d (.agg [cI v1.account,cI v1.at_,cI v1.value,cB (v1.name==([112,114,101,112,97,105,100]:List UInt8)),cB false,nilD]),.d (slOf 6 Account.row0 ([(⟨v1.account,v1.at_,v1.value,(v1.name==([112,114,101,112,97,105,100]:List UInt8)),false,([]:List Int)⟩:Account)]:List Account)),.t (.vc 0 (((([]:List Account)++v0.accounts)++([(⟨v1.account,v1.at_,v1.value,(v1.name==([112,114,101,112,97,105,100]:List UInt8)),false,([]:List Int)⟩:Account)]:List Account)).length)) 0 ⟨77,6,(((([]:List Account)++v0.accounts)++([(⟨v1.account,v1.at_,v1.value,(v1.name==([112,114,101,112,97,105,100]:List UInt8)),false,([]:List Int)⟩:Account)]:List Account)).length),some (((([]:List Account)++v0.accounts)++([(⟨v1.account,v1.at_,v1.value,(v1.name==([112,114,101,112,97,105,100]:List UInt8)),false,([]:List Int)⟩:Account)]:List Account)).map Account.row0)⟩] rfl ⟨.e (v_appendV (l:=([]:List Account)++v0.accounts) (l':=([(⟨v1.account,v1.at_,v1.value,(v1.name==([112,114,101,112,97,105,100]:List UInt8)),false,([]:List Int)⟩:Account)]:List Account)) (row:=Account.row0) underlying59 hi77 hz77 hs77 rfl (by rw [hb77]; decide) rfl rfl rfl rfl hk4) rfl,OpG.le (g_buildSlice1 underlying59 hi77 hs77 hz77 rfl rfl rfl rfl rfl) (EVle.d (.sl ⟨⟨.rfl' _,.rfl' _,.rfl' _,.rfl' _,.rfl' _,.nil0 1,trivial⟩,trivial⟩)),OpQ.g (q_buildP pl_77 hi77 hz77 rfl rfl)⟩ ?_
  refine .freezeCell (l:=(([]:List Account)++v0.accounts)++([(⟨v1.account,v1.at_,v1.value,(v1.name==([112,114,101,112,97,105,100]:List UInt8)),false,([]:List Int)⟩:Account)]:List Account)) (row:=Account.row0) 3 0 rfl rfl rfl ?_
  refine .freezeCell (l:=([]:List Sub)++v0.subs) (row:=Sub.row) 3 1 rfl rfl rfl ?_
  refine .freezeCell (l:=([]:List Int)++v0.ended) (row:=rI) 3 2 rfl rfl rfl ?_
  refine .A 3 [] rfl trivial ?_
  refine .R func30 results30 rfl ?_
  cases H
  exact .m rfl (.rfl' _)
 ·refine .A 5 [] rfl trivial ?_
  refine .ite H rfl (fun H=>?_) (fun H=>?_)
  ·obtain ⟨y1,hy1,H⟩:=bind_some' H
   obtain ⟨hk5,H⟩:=ck_some H
   obtain ⟨hk6,H⟩:=ck_some H
   refine .B 15 [.p 8,.i y1,.g (.vp 0 ((([]:List Account)++v0.accounts).length) y1.toNat 0),.w 5 ⟨[.row 67 [.d (slOf 6 Account.row0 v0.accounts),.d (slOf 8 Sub.row v0.subs),.d (slOf 1 rI v0.ended)],.row 43 [.d (cI v1.at_),.d (cI v1.kind),.d (cI v1.account),.d (cI v1.sub),.d (cS v1.number),.d (cS v1.name),.d (cI v1.value)],.row 67 [.d (nilD),.d (nilD),.d (nilD)],.row 67 [.vc 0 ((([]:List Account)++v0.accounts).length),.vc 1 ((([]:List Sub)++v0.subs).length),.vc 2 ((([]:List Int)++v0.ended).length)]],[⟨77,6,((([]:List Account)++v0.accounts).length),some (((([]:List Account)++v0.accounts).set y1.toNat (⟨(nth (([]:List Account)++v0.accounts) y1.toNat).id,(nth (([]:List Account)++v0.accounts) y1.toNat).since,(nth (([]:List Account)++v0.accounts) y1.toNat).anchor,(nth (([]:List Account)++v0.accounts) y1.toNat).prepaid,true,([]:List Int)⟩:Account)).map Account.row0)⟩,⟨38,8,((([]:List Sub)++v0.subs).length),some ((([]:List Sub)++v0.subs).map Sub.row)⟩,⟨3,1,((([]:List Int)++v0.ended).length),some ((([]:List Int)++v0.ended).map rI)⟩]⟩] rfl ⟨.e (u_storeV (l:=([]:List Account)++v0.accounts) (row:=Account.row0) (a:=(⟨(nth (([]:List Account)++v0.accounts) y1.toNat).id,(nth (([]:List Account)++v0.accounts) y1.toNat).since,(nth (([]:List Account)++v0.accounts) y1.toNat).anchor,(nth (([]:List Account)++v0.accounts) y1.toNat).prepaid,true,([]:List Int)⟩:Account)) rfl rfl hk6 rfl rfl sz_4 rfl (Nat.le_of_ble_eq_true rfl) rfl) rfl,OpQ.g (q_idxV (l:=([]:List Account)++v0.accounts) (row:=Account.row0) (i:=y1) underlying59 hi77 hs77 rfl rfl rfl hk5),g_call (en 6 rfl) rfl rfl (c_f_r17_account (hy1)),(show drawB _ _=true by kernel_rfl)⟩ ?_
   refine .freezeCell (l:=(([]:List Account)++v0.accounts).set y1.toNat (⟨(nth (([]:List Account)++v0.accounts) y1.toNat).id,(nth (([]:List Account)++v0.accounts) y1.toNat).since,(nth (([]:List Account)++v0.accounts) y1.toNat).anchor,(nth (([]:List Account)++v0.accounts) y1.toNat).prepaid,true,([]:List Int)⟩:Account)) (row:=Account.row0) 3 0 rfl rfl rfl ?_
   refine .freezeCell (l:=([]:List Sub)++v0.subs) (row:=Sub.row) 3 1 rfl rfl rfl ?_
   refine .freezeCell (l:=([]:List Int)++v0.ended) (row:=rI) 3 2 rfl rfl rfl ?_
   refine .A 3 [] rfl trivial ?_
   refine .R func30 results30 rfl ?_
   cases H
   exact .m rfl (.rfl' _)
  ·refine .A 5 [] rfl trivial ?_
   refine .ite H rfl (fun H=>?_) (fun H=>?_)
   ·obtain ⟨hk7,H⟩:=ck_some H
    refine .B 20 [.d (.agg (Sub.row (⟨v1.sub,v1.account,v1.at_,v1.name,([]:List (List UInt8)),([]:List (List UInt8)),false,false⟩:Sub))),.d (slOf 8 Sub.row ([(⟨v1.sub,v1.account,v1.at_,v1.name,([]:List (List UInt8)),([]:List (List UInt8)),false,false⟩:Sub)]:List Sub)),.t (.vc 1 (((([]:List Sub)++v0.subs)++([(⟨v1.sub,v1.account,v1.at_,v1.name,([]:List (List UInt8)),([]:List (List UInt8)),false,false⟩:Sub)]:List Sub)).length)) 1 ⟨38,8,(((([]:List Sub)++v0.subs)++([(⟨v1.sub,v1.account,v1.at_,v1.name,([]:List (List UInt8)),([]:List (List UInt8)),false,false⟩:Sub)]:List Sub)).length),some (((([]:List Sub)++v0.subs)++([(⟨v1.sub,v1.account,v1.at_,v1.name,([]:List (List UInt8)),([]:List (List UInt8)),false,false⟩:Sub)]:List Sub)).map Sub.row)⟩] rfl ⟨.e (v_appendV (l:=([]:List Sub)++v0.subs) (l':=([(⟨v1.sub,v1.account,v1.at_,v1.name,([]:List (List UInt8)),([]:List (List UInt8)),false,false⟩:Sub)]:List Sub)) (row:=Sub.row) underlying60 hi38 hz38 hs38 rfl (by rw [hb38]; decide) rfl rfl rfl rfl hk7) rfl,g_buildSlice1 underlying60 hi38 hs38 hz38 rfl rfl rfl rfl rfl,OpQ.g (OpQ.le (q_buildP pl_38 hi38 hz38 rfl rfl) (EVle.d (.agg ⟨.rfl' _,.rfl' _,.rfl' _,.rfl' _,.nil 1,.nil 1,.rfl' _,.rfl' _,trivial⟩)))⟩ ?_
    refine .freezeCell (l:=([]:List Account)++v0.accounts) (row:=Account.row0) 3 0 rfl rfl rfl ?_
    refine .freezeCell (l:=(([]:List Sub)++v0.subs)++([(⟨v1.sub,v1.account,v1.at_,v1.name,([]:List (List UInt8)),([]:List (List UInt8)),false,false⟩:Sub)]:List Sub)) (row:=Sub.row) 3 1 rfl rfl rfl ?_
    refine .freezeCell (l:=([]:List Int)++v0.ended) (row:=rI) 3 2 rfl rfl rfl ?_
    refine .A 3 [] rfl trivial ?_
    refine .R func30 results30 rfl ?_
    cases H
    exact .m rfl (.rfl' _)
   ·refine .seqJoin (ι:=Bool) (fun v90j1=>[(2,.ref 0 0),(3,.ref 1 0),(4,.ref 2 0),(5,.ref 3 0),(90,.d (cB v90j1))]) (fun v90j1=>⟨[.row 67 [.d (slOf 6 Account.row0 v0.accounts),.d (slOf 8 Sub.row v0.subs),.d (slOf 1 rI v0.ended)],.row 43 [.d (cI v1.at_),.d (cI v1.kind),.d (cI v1.account),.d (cI v1.sub),.d (cS v1.number),.d (cS v1.name),.d (cI v1.value)],.row 67 [.d (nilD),.d (nilD),.d (nilD)],.row 67 [.vc 0 ((([]:List Account)++v0.accounts).length),.vc 1 ((([]:List Sub)++v0.subs).length),.vc 2 ((([]:List Int)++v0.ended).length)]],[⟨77,6,((([]:List Account)++v0.accounts).length),some ((([]:List Account)++v0.accounts).map Account.row0)⟩,⟨38,8,((([]:List Sub)++v0.subs).length),some ((([]:List Sub)++v0.subs).map Sub.row)⟩,⟨3,1,((([]:List Int)++v0.ended).length),some ((([]:List Int)++v0.ended).map rI)⟩]⟩) (fun s=>f_r17_Apply_j1 v0 v1 s=some r) ?_ ?_
    ·rintro v90j1 H
     replace H:f_r17_Apply_j1 v0 v1 v90j1=some r:=H
     unfold f_r17_Apply_j1 at H
     refine .ite H rfl (fun H=>?_) (fun H=>?_)
     ·refine .B 2 [] rfl trivial ?_
      refine .freezeCell (l:=([]:List Account)++v0.accounts) (row:=Account.row0) 3 0 rfl rfl rfl ?_
      refine .freezeCell (l:=([]:List Sub)++v0.subs) (row:=Sub.row) 3 1 rfl rfl rfl ?_
      refine .freezeCell (l:=([]:List Int)++v0.ended) (row:=rI) 3 2 rfl rfl rfl ?_
      refine .A 3 [] rfl trivial ?_
      refine .R func30 results30 rfl ?_
      cases H
      exact .m rfl (.rfl' _)
     ·obtain ⟨y2,hy2,H⟩:=bind_some' H
      obtain ⟨hk8,H⟩:=ck_some H
      obtain ⟨hk9,H⟩:=ck_some H
      obtain ⟨y3,hy3,H⟩:=bind_some' H
      obtain ⟨hk10,H⟩:=ck_some H
      obtain ⟨hk11,H⟩:=ck_some H
      refine .A 30 [.i y2,.p 11,.g (.vp 1 ((([]:List Sub)++v0.subs).length) y2.toNat 0),.f 13 (.d (.agg (Sub.row (nth (([]:List Sub)++v0.subs) y2.toNat)))),.d (.agg (Sub.row y3)),.g (.vp 1 ((([]:List Sub)++v0.subs).length) y2.toNat 0),.w 8 ⟨[.row 67 [.d (slOf 6 Account.row0 v0.accounts),.d (slOf 8 Sub.row v0.subs),.d (slOf 1 rI v0.ended)],.row 43 [.d (cI v1.at_),.d (cI v1.kind),.d (cI v1.account),.d (cI v1.sub),.d (cS v1.number),.d (cS v1.name),.d (cI v1.value)],.row 67 [.d (nilD),.d (nilD),.d (nilD)],.row 67 [.vc 0 ((([]:List Account)++v0.accounts).length),.vc 1 ((([]:List Sub)++v0.subs).length),.vc 2 ((([]:List Int)++v0.ended).length)]],[⟨77,6,((([]:List Account)++v0.accounts).length),some ((([]:List Account)++v0.accounts).map Account.row0)⟩,⟨38,8,((([]:List Sub)++v0.subs).length),some (((([]:List Sub)++v0.subs).set y2.toNat y3).map Sub.row)⟩,⟨3,1,((([]:List Int)++v0.ended).length),some ((([]:List Int)++v0.ended).map rI)⟩]⟩] rfl ⟨.e (u_storeV (l:=([]:List Sub)++v0.subs) (row:=Sub.row) (a:=y3) rfl rfl hk11 rfl rfl sz_38 rfl (Nat.le_of_ble_eq_true rfl) rfl) rfl,OpQ.g (q_idxV (l:=([]:List Sub)++v0.subs) (row:=Sub.row) (i:=y2) underlying60 hi38 hs38 rfl rfl rfl hk10),g_call (en 16 rfl) rfl rfl (c_f_r17_changed (hy3)),OpQ.g (q_loadVpA (l:=([]:List Sub)++v0.subs) (row:=Sub.row) (cs:=(Sub.row (nth (([]:List Sub)++v0.subs) y2.toNat))) one_38 sz_38 rfl rfl hk9 (Nat.le_of_ble_eq_true rfl) rfl),OpQ.g (q_idxV (l:=([]:List Sub)++v0.subs) (row:=Sub.row) (i:=y2) underlying60 hi38 hs38 rfl rfl rfl hk8),(show drawB _ _=true by kernel_rfl),g_call (en 7 rfl) rfl rfl (c_f_r17_sub (hy2))⟩ ?_
      refine .ite H rfl (fun H=>?_) (fun H=>?_)
      ·obtain ⟨hk12,H⟩:=ck_some H
       refine .B 13 [.d (slOf 1 rI ([v1.sub]:List Int)),.t (.vc 2 (((([]:List Int)++v0.ended)++([v1.sub]:List Int)).length)) 2 ⟨3,1,(((([]:List Int)++v0.ended)++([v1.sub]:List Int)).length),some (((([]:List Int)++v0.ended)++([v1.sub]:List Int)).map rI)⟩] rfl ⟨.e (v_appendV (l:=([]:List Int)++v0.ended) (l':=([v1.sub]:List Int)) (row:=rI) underlying65 hi3 hz3 hs3 rfl (by rw [hb3]; decide) rfl rfl rfl rfl hk12) rfl,g_buildSlice1 underlying65 hi3 hs3 hz3 rfl rfl rfl rfl rfl⟩ ?_
       refine .freezeCell (l:=([]:List Account)++v0.accounts) (row:=Account.row0) 3 0 rfl rfl rfl ?_
       refine .freezeCell (l:=(([]:List Sub)++v0.subs).set y2.toNat y3) (row:=Sub.row) 3 1 rfl rfl rfl ?_
       refine .freezeCell (l:=(([]:List Int)++v0.ended)++([v1.sub]:List Int)) (row:=rI) 3 2 rfl rfl rfl ?_
       refine .A 3 [] rfl trivial ?_
       refine .R func30 results30 rfl ?_
       cases H
       exact .m rfl (.rfl' _)
      ·refine .B 4 [] rfl trivial ?_
       refine .freezeCell (l:=([]:List Account)++v0.accounts) (row:=Account.row0) 3 0 rfl rfl rfl ?_
       refine .freezeCell (l:=(([]:List Sub)++v0.subs).set y2.toNat y3) (row:=Sub.row) 3 1 rfl rfl rfl ?_
       refine .freezeCell (l:=([]:List Int)++v0.ended) (row:=rI) 3 2 rfl rfl rfl ?_
       refine .A 3 [] rfl trivial ?_
       refine .R func30 results30 rfl ?_
       cases H
       exact .m rfl (.rfl' _)
    ·intro hj1
     refine .A 5 [] rfl trivial ?_
     refine .ite H rfl (fun H=>?_) (fun H=>?_)
     ·refine .A 1 [] rfl trivial ?_
      exact .z (hj1 (v1.kind==14) H) rfl rfl
     ·refine .A 4 [] rfl trivial ?_
      exact .z (hj1 (v1.kind==15) H) rfl rfl
theorem c_f_r17_Check {v0events:List Event} {r:Int×Int} (H:f_r17_Check v0events=some r):ACall prog 18 [slOf 7 Event.row v0events] (·=.tup [cI r.1,cI r.2]):=by
 obtain ⟨i67,hi67,hz67,hs67,hb67⟩:=in_67
 refine ACall.enter' func18 rfl ntmps18 rfl fun S hS=>?_
 unfold f_r17_Check at H
 refine .A 12 [.i (v0events.length:Int)] rfl (s22.n rfl rfl) ?_
 refine .ite H rfl (fun H=>?_) (fun H=>?_)
 ·refine .A 5 [] rfl trivial ?_
  refine .R func18 results18 rfl ?_
  cases H
  exact .m rfl (.tupD rfl)
 ·refine .A 17 [.d (.agg (Billingref17Book.row (⟨([]:List Account),([]:List Sub),([]:List Int)⟩:Billingref17Book))),.r 0] rfl (OpQ.g (OpQ.le (q_buildP pl_67 hi67 hz67 rfl rfl) (EVle.d (.agg ⟨.nil 6,.nil 8,.nil 1,trivial⟩)))) ?_
  obtain ⟨n1,H⟩:=loop_some H
  refine .loop (ι:=Nat×(Int×Int×List Account×List Sub×List Int)) (fun ⟨_,v5lastl1,v6il1,o0c0l1,o0c1l1,o0c2l1⟩=>[(0,.d (slOf 7 Event.row v0events)),(4,.ref 0 0),(5,.d (cI v5lastl1)),(6,.d (cI v6il1))]) (fun ⟨_,v5lastl1,v6il1,o0c0l1,o0c1l1,o0c2l1⟩=>⟨[.row 67 [.d (slOf 6 Account.row0 o0c0l1),.d (slOf 8 Sub.row o0c1l1),.d (slOf 1 rI o0c2l1)]],[]⟩) (fun p=>iter (fun s=>f_r17_Check_l1 v0events s.1 s.2.1 s.2.2.1 s.2.2.2.1 s.2.2.2.2) p.1 p.2=some r) (·.1) (n1,(0,0,([]:List Account),([]:List Sub),([]:List Int))) H (.cons rfl (.rfl' _) (.cons rfl (.rfl' _) (.cons rfl (.rfl' _) (.cons rfl (.rfl' _) (.nil))))) rfl ?_
  rintro ⟨m1,v5lastl1,v6il1,o0c0l1,o0c1l1,o0c2l1⟩ HI ih1
  obtain ⟨n1,q1,hm1,H,HK1⟩:=iter_succ HI
  clear HI
  replace H:f_r17_Check_l1 v0events v5lastl1 v6il1 o0c0l1 o0c1l1 o0c2l1=some q1:=H
  unfold f_r17_Check_l1 at H
  refine .A 8 [.i (v0events.length:Int)] rfl (s22.n rfl rfl) ?_
  refine .ite H rfl (fun H=>?_) (fun H=>?_)
  ·obtain ⟨hk1,H⟩:=ck_some H
   obtain ⟨y1,hy1,H⟩:=bind_some' H
   refine .A 21 [.p 8,.d (.ro (Event.row (nth v0events v6il1.toNat))),.i y1] rfl ⟨g_call (en 17 rfl) rfl rfl (c_f_r17_Fault (hy1)),s22.ix rfl rfl rfl hk1,(show drawB _ _=true by kernel_rfl)⟩ ?_
   refine .ite H rfl (fun H=>?_) (fun H=>?_)
   ·refine .A 7 [] rfl trivial ?_
    refine .R func18 results18 rfl ?_
    cases H
    cases HK1
    exact .m rfl (.tupD rfl)
   ·obtain ⟨hk2,H⟩:=ck_some H
    obtain ⟨y2,hy2,H⟩:=bind_some' H
    obtain ⟨hk3,H⟩:=ck_some H
    obtain ⟨hk4,H⟩:=ck_some H
    refine .A 26 [.p 6,.d (.ro (Event.row (nth v0events v6il1.toNat))),.d (.agg (Billingref17Book.row y2)),.d (.ro (Event.row (nth v0events v6il1.toNat))),.i (v6il1+1)] rfl ⟨g_addI rfl rfl hk4,s22.ix rfl rfl rfl hk3,g_call (en 18 rfl) rfl rfl (c_f_r17_Apply (hy2)),s22.ix rfl rfl rfl hk2,(show drawB _ _=true by kernel_rfl)⟩ ?_
    cases H
    exact .z (ih1 (n1,((nth v0events v6il1.toNat).at_,v6il1+1,y2.accounts,y2.subs,y2.ended)) HK1 hm1) rfl rfl
  ·refine .A 6 [] rfl trivial ?_
   refine .R func18 results18 rfl ?_
   cases H
   cases HK1
   exact .m rfl (.tupD rfl)
set_option maxRecDepth 100000
set_option maxHeartbeats 1000000
theorem c_f_r21_Few {v0events:List Event} {r:Bool} (H:f_r21_Few v0events=some r):ACall prog 8 [slOf 7 Event.row v0events] (·=cB r):=by
 refine ACall.enter' func8 rfl ntmps8 rfl fun S hS=>?_
 unfold f_r21_Few at H
 refine .A 9 [] rfl trivial ?_
 refine .blockJoin2 (ι:=Unit) (fun _=>[(0,.d (slOf 7 Event.row v0events))]) (fun _=>⟨[],[]⟩) (fun s=>f_r21_Few_j1 v0events=some r) ?_ ?_
 ·rintro _ H
  replace H:f_r21_Few_j1 v0events=some r:=H
  unfold f_r21_Few_j1 at H
  refine .A 7 [.i (v0events.length:Int)] rfl (s22.n rfl rfl) ?_
  refine .ite H rfl (fun H=>?_) (fun H=>?_)
  ·refine .A 4 [] rfl trivial ?_
   refine .R func8 results8 rfl ?_
   cases H
   exact .m rfl (.rfl' _)
  ·obtain ⟨y1,hy1,H⟩:=bind_some' H
   refine .A 17 [.d (.tup [cI y1.1,cI y1.2])] rfl (g_call (en 19 rfl) rfl rfl (c_f_r17_Check (hy1))) ?_
   refine .R func8 results8 rfl ?_
   cases H
   exact .m rfl (.rfl' _)
 ·intro hj1 hj1x
  obtain ⟨n1,H⟩:=loop_some H
  refine .loop (ι:=Nat×(Int)) (fun ⟨_,v3il1⟩=>[(0,.d (slOf 7 Event.row v0events)),(3,.d (cI v3il1))]) (fun ⟨_,v3il1⟩=>⟨[],[]⟩) (fun p=>iter (fun s=>f_r21_Few_l1 v0events s) p.1 p.2=some r) (·.1) (n1,0) H (.cons rfl (.rfl' _) (.cons rfl (.rfl' _) (.nil))) rfl ?_
  rintro ⟨m1,v3il1⟩ HI ih1
  obtain ⟨n1,q1,hm1,H,HK1⟩:=iter_succ HI
  clear HI
  replace H:f_r21_Few_l1 v0events v3il1=some q1:=H
  unfold f_r21_Few_l1 at H
  refine .A 12 [.i (v0events.length:Int)] rfl ⟨rfl,rfl,s22.n rfl rfl⟩ ?_
  refine .ite H rfl (fun H=>?_) (fun H=>?_)
  ·obtain ⟨hk1,H⟩:=ck_some H
   obtain ⟨hk2,H⟩:=ck_some H
   refine .A 22 [.d (.ro (Event.row (nth v0events v3il1.toNat))),.i (((nth v0events v3il1.toNat).name).length:Int),.d (.ro (Event.row (nth v0events v3il1.toNat))),.i (((nth v0events v3il1.toNat).number).length:Int)] rfl ⟨rfl,rfl,fun hg=>OpQ.g (q_lenS underlying9 rfl),rfl,rfl,rfl,fun hg=>s22.ix rfl rfl rfl (hk2 hg),rfl,rfl,OpQ.g (q_lenS underlying9 rfl),s22.ix rfl rfl rfl hk1⟩ ?_
   refine .ite H rfl (fun H=>?_) (fun H=>?_)
   ·refine .A 4 [] rfl trivial ?_
    refine .R func8 results8 rfl ?_
    cases H
    cases HK1
    exact .m rfl (.rfl' _)
   ·obtain ⟨hk3,H⟩:=ck_some H
    refine .A 7 [.i (v3il1+1)] rfl (g_addI rfl rfl hk3) ?_
    cases H
    exact .z (ih1 (n1,(v3il1+1)) HK1 hm1) rfl rfl
  ·refine .A 1 [] rfl trivial ?_
   obtain ⟨q0,H9,hq0⟩:=map_some' H; clear H; cases hq0
   cases HK1
   have H:=H9
   exact .z (hj1x () H) rfl rfl
theorem c_f_w21_short {v0r:Record} {r:Bool} (H:f_w21_short v0r=some r):ACall prog 9 [.agg (Record.row v0r)] (·=cB r):=by
 refine ACall.enter' func9 rfl ntmps9 rfl fun S hS=>?_
 unfold f_w21_short at H
 refine .A 19 [.r 0,.i (v0r.a.length:Int),.i (v0r.b.length:Int)] rfl ⟨rfl,rfl,fun hg=>OpQ.g (q_lenS underlying9 rfl),rfl,rfl,OpQ.g (q_lenS underlying9 rfl)⟩ ?_
 refine .R func9 results9 rfl ?_
 cases H
 exact .m rfl (.rfl' _)
theorem c_f_w21_opened {r:(List Event)} (H:f_w21_opened=some r):ACall prog 19 [] (·=slOf 7 Event.row r):=by
 obtain ⟨i43,hi43,hz43,hs43,hb43⟩:=in_43
 refine ACall.enter' func19 rfl ntmps19 rfl fun S hS=>?_
 unfold f_w21_opened at H
 refine .A 13 [.d (.agg (Event.row (⟨0,1,1,0,([]:List UInt8),([112,111,115,116,112,97,105,100]:List UInt8),1⟩:Event))),.d (.agg (Event.row (⟨0,3,1,2,([]:List UInt8),([98,97,115,105,99]:List UInt8),0⟩:Event))),.d (.agg (Event.row (⟨100,5,0,2,([52,57,49,53]:List UInt8),([]:List UInt8),0⟩:Event))),.d (.agg (Event.row (⟨200,10,0,2,([]:List UInt8),([]:List UInt8),0⟩:Event))),.d (slOf 7 Event.row ([(⟨0,1,1,0,([]:List UInt8),([112,111,115,116,112,97,105,100]:List UInt8),1⟩:Event),(⟨0,3,1,2,([]:List UInt8),([98,97,115,105,99]:List UInt8),0⟩:Event),(⟨100,5,0,2,([52,57,49,53]:List UInt8),([]:List UInt8),0⟩:Event),(⟨200,10,0,2,([]:List UInt8),([]:List UInt8),0⟩:Event)]:List Event))] rfl ⟨g_buildSliceN (n:=4) (rows:=([(⟨0,1,1,0,([]:List UInt8),([112,111,115,116,112,97,105,100]:List UInt8),1⟩:Event),(⟨0,3,1,2,([]:List UInt8),([98,97,115,105,99]:List UInt8),0⟩:Event),(⟨100,5,0,2,([52,57,49,53]:List UInt8),([]:List UInt8),0⟩:Event),(⟨200,10,0,2,([]:List UInt8),([]:List UInt8),0⟩:Event)]:List Event).map Event.row) underlying22 hi43 hs43 hz43 rfl rfl rfl rfl rfl,OpQ.g (q_buildP pl_43 hi43 hz43 rfl rfl),OpQ.g (q_buildP pl_43 hi43 hz43 rfl rfl),OpQ.g (q_buildP pl_43 hi43 hz43 rfl rfl),OpQ.g (q_buildP pl_43 hi43 hz43 rfl rfl)⟩ ?_
 refine .R func19 results19 rfl ?_
 cases H
 exact .m rfl (.rfl' _)
theorem c_f_textual_within {v0n:Int} {v1lo:Int} {v2hi:Int} {r:Bool} (H:f_textual_within v0n v1lo v2hi=some r):ACall prog 56 [cI v0n,cI v1lo,cI v2hi] (·=cB r):=by
 refine ACall.enter' func56 rfl ntmps56 rfl fun S hS=>?_
 unfold f_textual_within at H
 refine .A 16 [] rfl ⟨rfl,rfl,rfl⟩ ?_
 refine .R func56 results56 rfl ?_
 cases H
 exact .m rfl (.rfl' _)
theorem c_f_digits_digit {v0c:UInt8} {r:Bool} (H:f_digits_digit v0c=some r):ACall prog 66 [cU8 v0c] (·=cB r):=by
 refine ACall.enter' func66 rfl ntmps66 rfl fun S hS=>?_
 unfold f_digits_digit at H
 refine .A 14 [.b (decide (v0c≥48)),.b (decide (v0c≤57))] rfl ⟨rfl,fun hg=>OpQ.g (q8_leq (a:=v0c) (b:=57) rfl rfl),rfl,OpQ.g (q8_geq (a:=v0c) (b:=48) rfl rfl)⟩ ?_
 refine .R func66 results66 rfl ?_
 cases H
 exact .m rfl (.rfl' _)
theorem c_f_digits_Valid {v0s:List UInt8} {r:Bool} (H:f_digits_Valid v0s=some r):ACall prog 57 [cS v0s] (·=cB r):=by
 refine ACall.enter' func57 rfl ntmps57 rfl fun S hS=>?_
 unfold f_digits_Valid at H
 refine .A 11 [.i (v0s.length:Int)] rfl (OpQ.g (q_lenS underlying9 rfl)) ?_
 refine .blockJoin2 (ι:=Unit) (fun _=>[(0,.d (cS v0s))]) (fun _=>⟨[],[]⟩) (fun s=>f_digits_Valid_j1 v0s=some r) ?_ ?_
 ·rintro _ H
  replace H:f_digits_Valid_j1 v0s=some r:=H
  unfold f_digits_Valid_j1 at H
  refine .A 12 [.i (v0s.length:Int),.i (v0s.length:Int)] rfl ⟨rfl,rfl,fun hg=>OpQ.g (q_lenS underlying9 rfl),rfl,OpQ.g (q_lenS underlying9 rfl)⟩ ?_
  refine .R func57 results57 rfl ?_
  cases H
  exact .m rfl (.rfl' _)
 ·intro hj1 hj1x
  obtain ⟨n1,H⟩:=loop_some H
  refine .loop (ι:=Nat×(Int)) (fun ⟨_,v6l1⟩=>[(0,.d (cS v0s)),(5,.d (cI (v0s.length:Int))),(6,.d (cI v6l1))]) (fun ⟨_,v6l1⟩=>⟨[],[]⟩) (fun p=>iter (fun s=>f_digits_Valid_l1 v0s s) p.1 p.2=some r) (·.1) (n1,0) H (.cons rfl (.rfl' _) (.cons rfl (.rfl' _) (.cons rfl (.rfl' _) (.nil)))) rfl ?_
  rintro ⟨m1,v6l1⟩ HI ih1
  obtain ⟨n1,q1,hm1,H,HK1⟩:=iter_succ HI
  clear HI
  replace H:f_digits_Valid_l1 v0s v6l1=some q1:=H
  unfold f_digits_Valid_l1 at H
  refine .A 5 [] rfl trivial ?_
  refine .ite H rfl (fun H=>?_) (fun H=>?_)
  ·obtain ⟨hk1,H⟩:=ck_some H
   obtain ⟨y1,hy1,H⟩:=bind_some' H
   refine .A 16 [.c (nth v0s v6l1.toNat),.b y1] rfl ⟨g_call (en 20 rfl) rfl rfl (c_f_digits_digit (hy1)),OpQ.g (q_indexL (i:=v6l1) underlying9 rfl rfl hk1)⟩ ?_
   refine .ite H rfl (fun H=>?_) (fun H=>?_)
   ·refine .A 4 [] rfl trivial ?_
    refine .R func57 results57 rfl ?_
    cases H
    cases HK1
    exact .m rfl (.rfl' _)
   ·obtain ⟨hk2,H⟩:=ck_some H
    refine .A 6 [.i (v6l1+1)] rfl (g_addI rfl rfl hk2) ?_
    cases H
    exact .z (ih1 (n1,(v6l1+1)) HK1 hm1) rfl rfl
  ·refine .A 1 [] rfl trivial ?_
   obtain ⟨q0,H9,hq0⟩:=map_some' H; clear H; cases hq0
   cases HK1
   have H:=H9
   exact .z (hj1x () H) rfl rfl
theorem c_f_textual_check {v0:Record} {r:Int} (H:f_textual_check v0=some r):ACall prog 42 [.agg (Record.row v0)] (·=cI r):=by
 refine ACall.enter' func42 rfl ntmps42 rfl fun S hS=>?_
 unfold f_textual_check at H
 refine .A 21 [.r 0] rfl ⟨rfl,rfl,rfl⟩ ?_
 refine .seqJoin (ι:=Int) (fun v4j1=>[(1,.ref 0 0),(3,.d (cB ((v0.kind==3) || (v0.kind==4)))),(4,.d (cI v4j1))]) (fun v4j1=>⟨[.row 24 [.d (cI v0.source),.d (cI v0.serial),.d (cI v0.kind),.d (cS v0.a),.d (cS v0.b),.d (cI v0.start),.d (cI v0.units),.d (cI v0.call),.d (cI v0.part),.d (cB v0.last),.d (cI v0.trunk),.d (cB v0.inbound)]],[]⟩) (fun s=>f_textual_check_j1 v0 s=some r) ?_ ?_
 ·rintro v4j1 H
  replace H:f_textual_check_j1 v0 v4j1=some r:=H
  unfold f_textual_check_j1 at H
  obtain ⟨y1,hy1,H⟩:=bind_some' H
  obtain ⟨y2,hy2,H⟩:=bind_some' H
  refine .A 16 [.b y1,.b y2] rfl ⟨rfl,rfl,fun hg=>g_call (en 21 rfl) rfl rfl (c_f_textual_within (gcall_some hy2 hg)),rfl,rfl,g_call (en 21 rfl) rfl rfl (c_f_textual_within (hy1))⟩ ?_
  refine .ite H rfl (fun H=>?_) (fun H=>?_)
  ·refine .A 4 [] rfl trivial ?_
   refine .R func42 results42 rfl ?_
   cases H
   exact .m rfl (.rfl' _)
  ·obtain ⟨y3,hy3,H⟩:=bind_some' H
   refine .A 8 [.b y3] rfl (g_call (en 21 rfl) rfl rfl (c_f_textual_within (hy3))) ?_
   refine .ite H rfl (fun H=>?_) (fun H=>?_)
   ·refine .A 4 [] rfl trivial ?_
    refine .R func42 results42 rfl ?_
    cases H
    exact .m rfl (.rfl' _)
   ·obtain ⟨y4,hy4,H⟩:=bind_some' H
    obtain ⟨y5,hy5,H⟩:=bind_some' H
    refine .B 17 [.b y4,.b y5] rfl ⟨rfl,rfl,rfl,rfl,rfl,fun hg=>g_call (en 22 rfl) rfl rfl (c_f_digits_Valid (gcall_some hy5 hg)),rfl,rfl,g_call (en 22 rfl) rfl rfl (c_f_digits_Valid (hy4))⟩ ?_
    refine .guardG (env':=[(44,_),(47,_)]) rfl rfl rfl ⟨.inr (.inl rfl),⟨.inr (.inr ⟨_,_,rfl,rfl⟩),trivial⟩⟩ rfl (fun hg=>OpQ.g (q_pickAndB rfl rfl rfl)) ?_
    refine .B 1 [] rfl rfl ?_
    refine .guardG (env':=[(42,_),(49,_)]) rfl rfl rfl ⟨.inr (.inl rfl),⟨.inr (.inr ⟨_,_,rfl,rfl⟩),trivial⟩⟩ rfl (fun hg=>OpQ.g (q_pickAndB rfl rfl rfl)) ?_
    refine .A 3 [] rfl rfl ?_
    refine .ite H rfl (fun H=>?_) (fun H=>?_)
    ·refine .A 4 [] rfl trivial ?_
     refine .R func42 results42 rfl ?_
     cases H
     exact .m rfl (.rfl' _)
    ·obtain ⟨y6,hy6,H⟩:=bind_some' H
     refine .A 8 [.b y6] rfl (g_call (en 21 rfl) rfl rfl (c_f_textual_within (hy6))) ?_
     refine .ite H rfl (fun H=>?_) (fun H=>?_)
     ·refine .A 4 [] rfl trivial ?_
      refine .R func42 results42 rfl ?_
      cases H
      exact .m rfl (.rfl' _)
     ·obtain ⟨y7,hy7,H⟩:=bind_some' H
      refine .A 9 [.b y7] rfl (g_call (en 21 rfl) rfl rfl (c_f_textual_within (hy7))) ?_
      refine .ite H rfl (fun H=>?_) (fun H=>?_)
      ·refine .A 4 [] rfl trivial ?_
       refine .R func42 results42 rfl ?_
       cases H
       exact .m rfl (.rfl' _)
      ·obtain ⟨hk1,H⟩:=ck_some H
       refine .A 15 [.i (v0.start+v0.units)] rfl ⟨rfl,rfl,fun hg=>g_addI rfl rfl (hk1 hg),rfl,rfl,rfl,rfl⟩ ?_
       refine .ite H rfl (fun H=>?_) (fun H=>?_)
       ·refine .A 4 [] rfl trivial ?_
        refine .R func42 results42 rfl ?_
        cases H
        exact .m rfl (.rfl' _)
       ·obtain ⟨y8,hy8,H⟩:=bind_some' H
        obtain ⟨y9,hy9,H⟩:=bind_some' H
        refine .A 14 [.b y8,.b y9] rfl ⟨rfl,rfl,fun hg=>g_call (en 21 rfl) rfl rfl (c_f_textual_within (gcall_some hy9 hg)),rfl,rfl,g_call (en 21 rfl) rfl rfl (c_f_textual_within (hy8))⟩ ?_
        refine .ite H rfl (fun H=>?_) (fun H=>?_)
        ·refine .A 4 [] rfl trivial ?_
         refine .R func42 results42 rfl ?_
         cases H
         exact .m rfl (.rfl' _)
        ·refine .B 16 [.b ((v0.part==0) != (v0.call==0))] rfl ⟨rfl,rfl,rfl,rfl,OpQ.g (q_bneq rfl underlying4 rfl)⟩ ?_
         refine .guardG (env':=[(97,_),(100,_)]) rfl rfl rfl ⟨.inr (.inl rfl),⟨.inr (.inr ⟨_,_,rfl,rfl⟩),trivial⟩⟩ rfl (fun hg=>OpQ.g (q_pickAndB rfl rfl rfl)) ?_
         refine .A 3 [] rfl rfl ?_
         refine .ite H rfl (fun H=>?_) (fun H=>?_)
         ·refine .A 4 [] rfl trivial ?_
          refine .R func42 results42 rfl ?_
          cases H
          exact .m rfl (.rfl' _)
         ·obtain ⟨y10,hy10,H⟩:=bind_some' H
          refine .A 8 [.b y10] rfl (g_call (en 21 rfl) rfl rfl (c_f_textual_within (hy10))) ?_
          refine .ite H rfl (fun H=>?_) (fun H=>?_)
          ·refine .A 4 [] rfl trivial ?_
           refine .R func42 results42 rfl ?_
           cases H
           exact .m rfl (.rfl' _)
          ·refine .A 11 [] rfl ⟨rfl,rfl,rfl⟩ ?_
           refine .ite H rfl (fun H=>?_) (fun H=>?_)
           ·refine .A 4 [] rfl trivial ?_
            refine .R func42 results42 rfl ?_
            cases H
            exact .m rfl (.rfl' _)
           ·refine .A 6 [] rfl trivial ?_
            refine .R func42 results42 rfl ?_
            cases H
            exact .m rfl (.rfl' _)
 ·intro hj1
  refine .A 6 [] rfl trivial ?_
  refine .ite H rfl (fun H=>?_) (fun H=>?_)
  ·refine .A 3 [] rfl trivial ?_
   exact .z (hj1 604800 H) rfl rfl
  ·refine .A 1 [] rfl trivial ?_
   exact .z (hj1 1099511627776 H) rfl rfl
theorem c_f_textual_Encode {v0:Record} {r:(List UInt8)×Int} (H:f_textual_Encode v0=some r):ACall prog 31 [.agg (Record.row v0)] (·=.tup [cS r.1,cI r.2]):=by
 obtain ⟨i9,hi9,hz9,hs9,hb9⟩:=in_9
 refine ACall.enter' func31 rfl ntmps31 rfl fun S hS=>?_
 unfold f_textual_Encode at H
 obtain ⟨y1,hy1,H⟩:=bind_some' H
 refine .A 18 [.r 0,.i y1] rfl (g_call (en 23 rfl) rfl rfl (c_f_textual_check (hy1))) ?_
 refine .ite H rfl (fun H=>?_) (fun H=>?_)
 ·refine .A 6 [] rfl trivial ?_
  refine .R func31 results31 rfl ?_
  cases H
  exact .m rfl (.tupD rfl)
 ·refine .A 11 [] rfl trivial ?_
  refine .seqJoin (ι:=List UInt8) (fun v6j1=>[(1,.ref 0 0),(5,.d (.ex (.func (.func 43) #[] #[]))),(6,.d (cS v6j1))]) (fun v6j1=>⟨[.row 24 [.d (cI v0.source),.d (cI v0.serial),.d (cI v0.kind),.d (cS v0.a),.d (cS v0.b),.d (cI v0.start),.d (cI v0.units),.d (cI v0.call),.d (cI v0.part),.d (cB v0.last),.d (cI v0.trunk),.d (cB v0.inbound)]],[]⟩) (fun s=>f_textual_Encode_j1 v0 s=some r) ?_ ?_
  ·rintro v6j1 H
   replace H:f_textual_Encode_j1 v0 v6j1=some r:=H
   unfold f_textual_Encode_j1 at H
   obtain ⟨hk1,H⟩:=ck_some H
   obtain ⟨hk2,H⟩:=ck_some H
   obtain ⟨y2,hy2,H⟩:=bind_some' H
   obtain ⟨y3,hy3,H⟩:=bind_some' H
   obtain ⟨y4,hy4,H⟩:=bind_some' H
   obtain ⟨y5,hy5,H⟩:=bind_some' H
   refine .A 31 [.p 25,.i (v0.kind-1),.s ((([118,116,100,99]:List UInt8).take v0.kind.toNat).drop (v0.kind-1).toNat),.s y2,.s y3,.s y4,.s y5,.n (.tsl 1 (([(([118,116,100,99]:List UInt8).take v0.kind.toNat).drop (v0.kind-1).toNat,y2,y3,v0.a,v6j1,y4,y5]:List (List UInt8)).map rS) 0) ⟨9,1,([(([118,116,100,99]:List UInt8).take v0.kind.toNat).drop (v0.kind-1).toNat,y2,y3,v0.a,v6j1,y4,y5]:List (List UInt8)).length,none⟩] rfl ⟨.e (v_buildSliceT (n:=7) underlying36 hi9 hs9 hz9 rfl rfl rfl rfl rfl) rfl,g_callF (en 24 rfl) rfl rfl rfl (c_x_Itoa (hy5)),g_callF (en 24 rfl) rfl rfl rfl (c_x_Itoa (hy4)),g_callF (en 24 rfl) rfl rfl rfl (c_x_Itoa (hy3)),g_callF (en 24 rfl) rfl rfl rfl (c_x_Itoa (hy2)),OpQ.g (q_strLHL underlying9 rfl rfl rfl hk2),g_subI rfl rfl hk1,(show drawB _ _=true by kernel_rfl)⟩ ?_
   refine .seqJoin (ι:=List (List UInt8)) (fun v7j2=>[(1,.ref 0 0),(5,.d (.ex (.func (.func 43) #[] #[]))),(7,.tsl 1 (v7j2.map rS) 0)]) (fun v7j2=>⟨[.row 24 [.d (cI v0.source),.d (cI v0.serial),.d (cI v0.kind),.d (cS v0.a),.d (cS v0.b),.d (cI v0.start),.d (cI v0.units),.d (cI v0.call),.d (cI v0.part),.d (cB v0.last),.d (cI v0.trunk),.d (cB v0.inbound)]],[⟨9,1,v7j2.length,none⟩]⟩) (fun s=>f_textual_Encode_j2 v0 s=some r) ?_ ?_
   ·rintro v7j2 H
    replace H:f_textual_Encode_j2 v0 v7j2=some r:=H
    unfold f_textual_Encode_j2 at H
    refine .seqJoin (ι:=List (List UInt8)) (fun v7j3=>[(7,.tsl 1 (v7j3.map rS) 0)]) (fun v7j3=>⟨[.row 24 [.d (cI v0.source),.d (cI v0.serial),.d (cI v0.kind),.d (cS v0.a),.d (cS v0.b),.d (cI v0.start),.d (cI v0.units),.d (cI v0.call),.d (cI v0.part),.d (cB v0.last),.d (cI v0.trunk),.d (cB v0.inbound)]],[⟨9,1,v7j3.length,none⟩]⟩) (fun s=>f_textual_Encode_j3 s=some r) ?_ ?_
    ·rintro v7j3 H
     replace H:f_textual_Encode_j3 v7j3=some r:=H
     unfold f_textual_Encode_j3 at H
     obtain ⟨y6,hy6,H⟩:=bind_some' H
     refine .A 7 [.s y6] rfl (g_call (en 25 rfl) rfl rfl (c_x_Join (hy6))) ?_
     refine .R func31 results31 rfl ?_
     cases H
     exact .m rfl (.tupD rfl)
    ·intro hj3
     refine .A 6 [] rfl trivial ?_
     refine .ite H rfl (fun H=>?_) (fun H=>?_)
     ·refine .A 4 [] rfl trivial ?_
      refine .seqJoin (ι:=List UInt8) (fun v8j4=>[(1,.ref 0 0),(5,.d (.ex (.func (.func 43) #[] #[]))),(7,.tsl 1 (v7j2.map rS) 0),(8,.d (cS v8j4))]) (fun v8j4=>⟨[.row 24 [.d (cI v0.source),.d (cI v0.serial),.d (cI v0.kind),.d (cS v0.a),.d (cS v0.b),.d (cI v0.start),.d (cI v0.units),.d (cI v0.call),.d (cI v0.part),.d (cB v0.last),.d (cI v0.trunk),.d (cB v0.inbound)]],[⟨9,1,v7j2.length,none⟩]⟩) (fun s=>f_textual_Encode_j4 v0 v7j2 s=some r) ?_ ?_
      ·rintro v8j4 H
       replace H:f_textual_Encode_j4 v0 v7j2 v8j4=some r:=H
       unfold f_textual_Encode_j4 at H
       obtain ⟨y7,hy7,H⟩:=bind_some' H
       obtain ⟨hk3,H⟩:=ck_some H
       refine .A 11 [.s y7,.d (slOf 1 rS ([v8j4,y7]:List (List UInt8))),.a 0 9 1 rS (v7j2++([v8j4,y7]:List (List UInt8)))] rfl ⟨s36.a rfl rfl rfl rfl hk3,g_buildSliceN (n:=2) (rows:=([v8j4,y7]:List (List UInt8)).map rS) underlying36 hi9 hs9 hz9 rfl rfl rfl rfl rfl,g_callF (en 24 rfl) rfl rfl rfl (c_x_Itoa (hy7))⟩ ?_
       exact .z (hj3 (v7j2++([v8j4,y7]:List (List UInt8))) H) rfl rfl
      ·intro hj4
       refine .A 5 [] rfl trivial ?_
       refine .ite H rfl (fun H=>?_) (fun H=>?_)
       ·refine .A 3 [] rfl trivial ?_
        exact .z (hj4 ([105,110]:List UInt8) H) rfl rfl
       ·refine .A 1 [] rfl trivial ?_
        exact .z (hj4 ([111,117,116]:List UInt8) H) rfl rfl
     ·refine .A 1 [] rfl trivial ?_
      exact .z (hj3 v7j2 H) rfl rfl
   ·intro hj2
    refine .A 6 [] rfl trivial ?_
    refine .ite H rfl (fun H=>?_) (fun H=>?_)
    ·obtain ⟨y8,hy8,H⟩:=bind_some' H
     obtain ⟨y9,hy9,H⟩:=bind_some' H
     obtain ⟨hk4,H⟩:=ck_some H
     refine .A 21 [.p 10,.s y8,.s y9,.d (slOf 1 rS ([([112,97,114,116]:List UInt8),y8,y9]:List (List UInt8))),.a 0 9 1 rS (([(([118,116,100,99]:List UInt8).take v0.kind.toNat).drop (v0.kind-1).toNat,y2,y3,v0.a,v6j1,y4,y5]:List (List UInt8))++([([112,97,114,116]:List UInt8),y8,y9]:List (List UInt8)))] rfl ⟨s36.a rfl rfl rfl rfl hk4,g_buildSliceN (n:=3) (rows:=([([112,97,114,116]:List UInt8),y8,y9]:List (List UInt8)).map rS) underlying36 hi9 hs9 hz9 rfl rfl rfl rfl rfl,g_callF (en 24 rfl) rfl rfl rfl (c_x_Itoa (hy9)),g_callF (en 24 rfl) rfl rfl rfl (c_x_Itoa (hy8)),(show drawB _ _=true by kernel_rfl)⟩ ?_
     refine .ite H rfl (fun H=>?_) (fun H=>?_)
     ·obtain ⟨hk5,H⟩:=ck_some H
      refine .A 6 [.d (slOf 1 rS ([([108,97,115,116]:List UInt8)]:List (List UInt8))),.a 0 9 1 rS ((([(([118,116,100,99]:List UInt8).take v0.kind.toNat).drop (v0.kind-1).toNat,y2,y3,v0.a,v6j1,y4,y5]:List (List UInt8))++([([112,97,114,116]:List UInt8),y8,y9]:List (List UInt8)))++([([108,97,115,116]:List UInt8)]:List (List UInt8)))] rfl ⟨s36.a rfl rfl rfl rfl hk5,g_buildSlice1 underlying36 hi9 hs9 hz9 rfl rfl rfl rfl rfl⟩ ?_
      exact .z (hj2 ((([(([118,116,100,99]:List UInt8).take v0.kind.toNat).drop (v0.kind-1).toNat,y2,y3,v0.a,v6j1,y4,y5]:List (List UInt8))++([([112,97,114,116]:List UInt8),y8,y9]:List (List UInt8)))++([([108,97,115,116]:List UInt8)]:List (List UInt8))) H) rfl rfl
     ·refine .A 1 [] rfl trivial ?_
      exact .z (hj2 (([(([118,116,100,99]:List UInt8).take v0.kind.toNat).drop (v0.kind-1).toNat,y2,y3,v0.a,v6j1,y4,y5]:List (List UInt8))++([([112,97,114,116]:List UInt8),y8,y9]:List (List UInt8))) H) rfl rfl
    ·refine .A 1 [] rfl trivial ?_
     exact .z (hj2 ([(([118,116,100,99]:List UInt8).take v0.kind.toNat).drop (v0.kind-1).toNat,y2,y3,v0.a,v6j1,y4,y5]:List (List UInt8)) H) rfl rfl
  ·intro hj1
   refine .A 5 [] rfl trivial ?_
   refine .ite H rfl (fun H=>?_) (fun H=>?_)
   ·refine .A 3 [] rfl trivial ?_
    exact .z (hj1 ([45]:List UInt8) H) rfl rfl
   ·refine .A 1 [] rfl trivial ?_
    exact .z (hj1 v0.b H) rfl rfl
theorem c_f_validate_Check {v0r:Record} {r:Int} (H:f_validate_Check v0r=some r):ACall prog 20 [.agg (Record.row v0r)] (·=cI r):=by
 refine ACall.enter' func20 rfl ntmps20 rfl fun S hS=>?_
 unfold f_validate_Check at H
 obtain ⟨y1,hy1,H⟩:=bind_some' H
 refine .A 20 [.r 0,.d (.tup [cS y1.1,cI y1.2])] rfl (g_call (en 26 rfl) rfl rfl (c_f_textual_Encode (hy1))) ?_
 refine .R func20 results20 rfl ?_
 cases H
 exact .m rfl (.rfl' _)
theorem c_f_enrich_source_number {v0s:EnrichSource} {r:(List UInt8)} (H:f_enrich_source_number v0s=some r):ACall prog 33 [.agg (EnrichSource.row v0s)] (·=cS r):=by
 refine ACall.enter' func33 rfl ntmps33 rfl fun S hS=>?_
 unfold f_enrich_source_number at H
 refine .A 12 [.r 0] rfl trivial ?_
 refine .ite H rfl (fun H=>?_) (fun H=>?_)
 ·refine .A 7 [] rfl trivial ?_
  refine .R func33 results33 rfl ?_
  cases H
  exact .m rfl (.rfl' _)
 ·refine .A 8 [] rfl trivial ?_
  refine .R func33 results33 rfl ?_
  cases H
  exact .m rfl (.rfl' _)
set_option maxRecDepth 100000
set_option maxHeartbeats 1000000
theorem c_f_customer_place_int {v0list:List Int} {v1x:Int} {r:(List Int)} (H:f_customer_place_int v0list v1x=some r):ACall prog 71 [slOf 1 rI v0list,cI v1x] (·=slOf 1 rI r):=by
 obtain ⟨i3,hi3,hz3,hs3,hb3⟩:=in_3
 refine ACall.enter' func71 rfl ntmps71 rfl fun S hS=>?_
 unfold f_customer_place_int at H
 refine .A 9 [] rfl trivial ?_
 refine .blockJoin2 (ι:=Int) (fun v5atj1=>[(0,.d (slOf 1 rI v0list)),(1,.d (cI v1x)),(5,.d (cI v5atj1))]) (fun v5atj1=>⟨[],[]⟩) (fun s=>f_customer_place_int_j1 v0list v1x s=some r) ?_ ?_
 ·rintro v5atj1 H
  replace H:f_customer_place_int_j1 v0list v1x v5atj1=some r:=H
  unfold f_customer_place_int_j1 at H
  obtain ⟨hk1,H⟩:=ck_some H
  obtain ⟨hk2,H⟩:=ck_some H
  obtain ⟨hk3,H⟩:=ck_some H
  obtain ⟨hk4,H⟩:=ck_some H
  obtain ⟨hk5,H⟩:=ck_some H
  refine .A 25 [.d (slOf 1 rI (v0list.take v5atj1.toNat)),.n (.tsl 1 ((v0list.take v5atj1.toNat).map rI) 0) ⟨3,1,(v0list.take v5atj1.toNat).length,none⟩,.d (slOf 1 rI ([v1x]:List Int)),.a 0 3 1 rI ((v0list.take v5atj1.toNat)++([v1x]:List Int)),.d (slOf 1 rI (v0list.drop v5atj1.toNat)),.a 0 3 1 rI (((v0list.take v5atj1.toNat)++([v1x]:List Int))++(v0list.drop v5atj1.toNat))] rfl ⟨s65.a rfl rfl rfl rfl hk5,OpQ.g (q_slLL (l:=v0list) (row:=rI) underlying65 hi3 hs3 rfl rfl rfl hk4),s65.a rfl rfl rfl rfl hk3,g_buildSlice1 underlying65 hi3 hs3 hz3 rfl rfl rfl rfl rfl,.e (v_appendNilL (l':=v0list.take v5atj1.toNat) (row:=rI) underlying65 hi3 hz3 hs3 rfl (by rw [hb3]; decide) rfl rfl rfl hk2) rfl,OpQ.g (q_slHL (l:=v0list) (row:=rI) underlying65 hi3 hs3 rfl rfl rfl hk1)⟩ ?_
  refine .R func71 results71 rfl ?_
  cases H
  exact .m rfl (.tsl _ _ _)
 ·intro hj1 hj1x
  obtain ⟨n1,H⟩:=loop_some H
  refine .loop (ι:=Nat×(Int)) (fun ⟨_,v5atl1⟩=>[(0,.d (slOf 1 rI v0list)),(1,.d (cI v1x)),(5,.d (cI v5atl1))]) (fun ⟨_,v5atl1⟩=>⟨[],[]⟩) (fun p=>iter (fun s=>f_customer_place_int_l1 v0list v1x s) p.1 p.2=some r) (·.1) (n1,0) H (.cons rfl (.rfl' _) (.cons rfl (.rfl' _) (.cons rfl (.rfl' _) (.nil)))) rfl ?_
  rintro ⟨m1,v5atl1⟩ HI ih1
  obtain ⟨n1,q1,hm1,H,HK1⟩:=iter_succ HI
  clear HI
  replace H:f_customer_place_int_l1 v0list v1x v5atl1=some q1:=H
  unfold f_customer_place_int_l1 at H
  obtain ⟨hk6,H⟩:=ck_some H
  refine .A 16 [.i (v0list.length:Int),.d (.ro (rI (nth v0list v5atl1.toNat)))] rfl ⟨rfl,rfl,rfl,rfl,fun hg=>s65.ix rfl rfl rfl (hk6 hg),rfl,rfl,s65.n rfl rfl⟩ ?_
  refine .ite H rfl (fun H=>?_) (fun H=>?_)
  ·obtain ⟨hk7,H⟩:=ck_some H
   refine .A 8 [.i (v5atl1+1)] rfl (g_addI rfl rfl hk7) ?_
   cases H
   exact .z (ih1 (n1,(v5atl1+1)) HK1 hm1) rfl rfl
  ·refine .A 1 [] rfl trivial ?_
   obtain ⟨q0,H9,hq0⟩:=map_some' H; clear H; cases hq0
   cases HK1
   have H:=H9
   exact .z (hj1x v5atl1 H) rfl rfl
theorem c_f_customer_place_string {v0list:List (List UInt8)} {v1x:List UInt8} {r:(List (List UInt8))} (H:f_customer_place_string v0list v1x=some r):ACall prog 79 [slOf 1 rS v0list,cS v1x] (·=slOf 1 rS r):=by
 obtain ⟨i9,hi9,hz9,hs9,hb9⟩:=in_9
 refine ACall.enter' func79 rfl ntmps79 rfl fun S hS=>?_
 unfold f_customer_place_string at H
 refine .A 9 [] rfl trivial ?_
 refine .blockJoin2 (ι:=Int) (fun v5atj1=>[(0,.d (slOf 1 rS v0list)),(1,.d (cS v1x)),(5,.d (cI v5atj1))]) (fun v5atj1=>⟨[],[]⟩) (fun s=>f_customer_place_string_j1 v0list v1x s=some r) ?_ ?_
 ·rintro v5atj1 H
  replace H:f_customer_place_string_j1 v0list v1x v5atj1=some r:=H
  unfold f_customer_place_string_j1 at H
  obtain ⟨hk1,H⟩:=ck_some H
  obtain ⟨hk2,H⟩:=ck_some H
  obtain ⟨hk3,H⟩:=ck_some H
  obtain ⟨hk4,H⟩:=ck_some H
  obtain ⟨hk5,H⟩:=ck_some H
  refine .A 25 [.d (slOf 1 rS (v0list.take v5atj1.toNat)),.n (.tsl 1 ((v0list.take v5atj1.toNat).map rS) 0) ⟨9,1,(v0list.take v5atj1.toNat).length,none⟩,.d (slOf 1 rS ([v1x]:List (List UInt8))),.a 0 9 1 rS ((v0list.take v5atj1.toNat)++([v1x]:List (List UInt8))),.d (slOf 1 rS (v0list.drop v5atj1.toNat)),.a 0 9 1 rS (((v0list.take v5atj1.toNat)++([v1x]:List (List UInt8)))++(v0list.drop v5atj1.toNat))] rfl ⟨s36.a rfl rfl rfl rfl hk5,OpQ.g (q_slLL (l:=v0list) (row:=rS) underlying36 hi9 hs9 rfl rfl rfl hk4),s36.a rfl rfl rfl rfl hk3,g_buildSlice1 underlying36 hi9 hs9 hz9 rfl rfl rfl rfl rfl,.e (v_appendNilL (l':=v0list.take v5atj1.toNat) (row:=rS) underlying36 hi9 hz9 hs9 rfl (by rw [hb9]; decide) rfl rfl rfl hk2) rfl,OpQ.g (q_slHL (l:=v0list) (row:=rS) underlying36 hi9 hs9 rfl rfl rfl hk1)⟩ ?_
  refine .R func79 results79 rfl ?_
  cases H
  exact .m rfl (.tsl _ _ _)
 ·intro hj1 hj1x
  obtain ⟨n1,H⟩:=loop_some H
  refine .loop (ι:=Nat×(Int)) (fun ⟨_,v5atl1⟩=>[(0,.d (slOf 1 rS v0list)),(1,.d (cS v1x)),(5,.d (cI v5atl1))]) (fun ⟨_,v5atl1⟩=>⟨[],[]⟩) (fun p=>iter (fun s=>f_customer_place_string_l1 v0list v1x s) p.1 p.2=some r) (·.1) (n1,0) H (.cons rfl (.rfl' _) (.cons rfl (.rfl' _) (.cons rfl (.rfl' _) (.nil)))) rfl ?_
  rintro ⟨m1,v5atl1⟩ HI ih1
  obtain ⟨n1,q1,hm1,H,HK1⟩:=iter_succ HI
  clear HI
  replace H:f_customer_place_string_l1 v0list v1x v5atl1=some q1:=H
  unfold f_customer_place_string_l1 at H
  obtain ⟨hk6,H⟩:=ck_some H
  refine .A 16 [.i (v0list.length:Int),.d (.ro (rS (nth v0list v5atl1.toNat))),.b (strlss (nth v0list v5atl1.toNat) v1x)] rfl ⟨rfl,fun hg=>OpQ.g (q_slss rfl rfl),rfl,rfl,rfl,fun hg=>s36.ix rfl rfl rfl (hk6 hg),rfl,rfl,s36.n rfl rfl⟩ ?_
  refine .ite H rfl (fun H=>?_) (fun H=>?_)
  ·obtain ⟨hk7,H⟩:=ck_some H
   refine .A 8 [.i (v5atl1+1)] rfl (g_addI rfl rfl hk7) ?_
   cases H
   exact .z (ih1 (n1,(v5atl1+1)) HK1 hm1) rfl rfl
  ·refine .A 1 [] rfl trivial ?_
   obtain ⟨q0,H9,hq0⟩:=map_some' H; clear H; cases hq0
   cases HK1
   have H:=H9
   exact .z (hj1x v5atl1 H) rfl rfl
theorem c_f_customer_remove {v0list:List (List UInt8)} {v1x:List UInt8} {r:(List (List UInt8))} (H:f_customer_remove v0list v1x=some r):ACall prog 80 [slOf 1 rS v0list,cS v1x] (·=slOf 1 rS r):=by
 obtain ⟨i9,hi9,hz9,hs9,hb9⟩:=in_9
 refine ACall.enter' func80 rfl ntmps80 rfl fun S hS=>?_
 unfold f_customer_remove at H
 refine .A 16 [.i (v0list.length:Int)] rfl (s36.n rfl rfl) ?_
 refine .tok (i:=5) (e:=9) (sz:=1) rfl ?_
 obtain ⟨n1,H⟩:=loop_some H
 refine .loop (ι:=Nat×(List (List UInt8)×Int)) (fun ⟨_,v5outl1,v10l1⟩=>[(1,.d (cS v1x)),(5,.tsl 1 (v5outl1.map rS) 0),(8,.d (slOf 1 rS v0list)),(9,.d (cI (v0list.length:Int))),(10,.d (cI v10l1))]) (fun ⟨_,v5outl1,v10l1⟩=>⟨[],[⟨9,1,v5outl1.length,none⟩]⟩) (fun p=>iter (fun s=>f_customer_remove_l1 v0list v1x s.1 s.2) p.1 p.2=some r) (·.1) (n1,(([]:List (List UInt8)),0)) H (.cons rfl (.rfl' _) (.cons rfl (.rfl' _) (.cons rfl (.rfl' _) (.cons rfl (.rfl' _) (.cons rfl (.rfl' _) (.nil)))))) rfl ?_
 rintro ⟨m1,v5outl1,v10l1⟩ HI ih1
 obtain ⟨n1,q1,hm1,H,HK1⟩:=iter_succ HI
 clear HI
 replace H:f_customer_remove_l1 v0list v1x v5outl1 v10l1=some q1:=H
 unfold f_customer_remove_l1 at H
 refine .A 5 [] rfl trivial ?_
 refine .ite H rfl (fun H=>?_) (fun H=>?_)
 ·obtain ⟨hk1,H⟩:=ck_some H
  refine .A 15 [.d (.ro (rS (nth v0list v10l1.toNat)))] rfl (s36.ix rfl rfl rfl hk1) ?_
  refine .ite H rfl (fun H=>?_) (fun H=>?_)
  ·obtain ⟨hk2,H⟩:=ck_some H
   obtain ⟨hk3,H⟩:=ck_some H
   refine .A 12 [.d (slOf 1 rS ([nth v0list v10l1.toNat]:List (List UInt8))),.a 0 9 1 rS (v5outl1++([nth v0list v10l1.toNat]:List (List UInt8))),.i (v10l1+1)] rfl ⟨g_addI rfl rfl hk3,s36.a rfl rfl rfl rfl hk2,g_buildSlice1 underlying36 hi9 hs9 hz9 rfl rfl rfl rfl rfl⟩ ?_
   cases H
   exact .z (ih1 (n1,(v5outl1++([nth v0list v10l1.toNat]:List (List UInt8)),v10l1+1)) HK1 hm1) rfl rfl
  ·obtain ⟨hk4,H⟩:=ck_some H
   refine .A 6 [.i (v10l1+1)] rfl (g_addI rfl rfl hk4) ?_
   cases H
   exact .z (ih1 (n1,(v5outl1,v10l1+1)) HK1 hm1) rfl rfl
 ·refine .A 6 [] rfl trivial ?_
  refine .R func80 results80 rfl ?_
  cases H
  cases HK1
  exact .m rfl (.tsl _ _ _)
theorem c_g_customer_begin {r:(List (Int×Account))×(List (Int×Sub))×(List (Int×Bool))×(List ((List UInt8)×Int))×(List (Int×Int))} (H:g_customer_begin=some r):ACallS prog 62 [] ⟨[],[]⟩ (QE (.ref 0 0) ⟨[.row 116 [.mp 1,.mp 2,.mp 3,.mp 4,.mp 5,.d (nilD),.d (nilD)],.map (mEnc (fun n=>Value.int .i64 n) (fun x=>.agg (Account.row x)) r.1),.map (mEnc (fun n=>Value.int .i64 n) (fun x=>.agg (Sub.row x)) r.2.1),.map (mEnc (fun n=>Value.int .i64 n) (fun x=>cB x) r.2.2.1),.map (mEnc (fun s=>Value.string ⟨s.toArray⟩) (fun x=>cI x) r.2.2.2.1),.map (mEnc (fun n=>Value.int .i64 n) (fun x=>cI x) r.2.2.2.2)],[]⟩):=by
 obtain ⟨i116,hi116,hz116,hs116,hb116⟩:=in_116
 refine ACallS.keep ?_
 refine ACallS.enter func62 rfl ntmps62 rfl fun S hS=>?_
 unfold g_customer_begin at H
 refine .A 15 [.v (.mp 0) ⟨[.map (mEnc (fun n=>Value.int .i64 n) (fun x=>.agg (Account.row x)) ([]:List (Int×Account)))],[]⟩,.v (.mp 1) ⟨[.map (mEnc (fun n=>Value.int .i64 n) (fun x=>.agg (Account.row x)) ([]:List (Int×Account))),.map (mEnc (fun n=>Value.int .i64 n) (fun x=>.agg (Sub.row x)) ([]:List (Int×Sub)))],[]⟩,.v (.mp 2) ⟨[.map (mEnc (fun n=>Value.int .i64 n) (fun x=>.agg (Account.row x)) ([]:List (Int×Account))),.map (mEnc (fun n=>Value.int .i64 n) (fun x=>.agg (Sub.row x)) ([]:List (Int×Sub))),.map (mEnc (fun n=>Value.int .i64 n) (fun x=>cB x) ([]:List (Int×Bool)))],[]⟩,.v (.mp 3) ⟨[.map (mEnc (fun n=>Value.int .i64 n) (fun x=>.agg (Account.row x)) ([]:List (Int×Account))),.map (mEnc (fun n=>Value.int .i64 n) (fun x=>.agg (Sub.row x)) ([]:List (Int×Sub))),.map (mEnc (fun n=>Value.int .i64 n) (fun x=>cB x) ([]:List (Int×Bool))),.map (mEnc (fun s=>Value.string ⟨s.toArray⟩) (fun x=>cI x) ([]:List ((List UInt8)×Int)))],[]⟩,.v (.mp 4) ⟨[.map (mEnc (fun n=>Value.int .i64 n) (fun x=>.agg (Account.row x)) ([]:List (Int×Account))),.map (mEnc (fun n=>Value.int .i64 n) (fun x=>.agg (Sub.row x)) ([]:List (Int×Sub))),.map (mEnc (fun n=>Value.int .i64 n) (fun x=>cB x) ([]:List (Int×Bool))),.map (mEnc (fun s=>Value.string ⟨s.toArray⟩) (fun x=>cI x) ([]:List ((List UInt8)×Int))),.map (mEnc (fun n=>Value.int .i64 n) (fun x=>cI x) ([]:List (Int×Int)))],[]⟩,.g (.agg [.mp 0,.mp 1,.mp 2,.mp 3,.mp 4,.d (nilD),.d (nilD)]),.r 5] rfl ⟨OpQ.g (q_buildE pl_116 hi116 hz116 rfl rfl),.e (v_makeMap) rfl,.e (v_makeMap) rfl,.e (v_makeMap) rfl,.e (v_makeMap) rfl,.e (v_makeMap) rfl⟩ ?_
 refine .R func62 results62 rfl ?_
 cases H
 exact ⟨[5,0,1,2,3,4],[],rfl,(okCons rfl (okCons okMap (okCons okMap (okCons okMap (okCons okMap (okCons okMap rfl)))))),(by first | rfl | (simp only [List.map_cons,List.map_nil,renMap,renArr,mergeSt]; rfl)),(by first | rfl | (simp only [List.map_cons,List.map_nil,renMap,renArr,mergeSt]; rfl)),(by first | rfl | (simp only [List.map_cons,List.map_nil,renMap,renArr,mergeSt]; rfl)),(by first | rfl | (simp only [List.map_cons,List.map_nil,renMap,renArr,mergeSt]; rfl)),(by first | rfl | (simp only [List.map_cons,List.map_nil,renMap,renArr,mergeSt]; rfl)),(by first | rfl | (simp only [List.map_cons,List.map_nil,renMap,renArr,mergeSt]; rfl)),.rfl' _⟩
theorem c_g_customer_upto {v0events:List Event} {v1t:Int} {r:(List Event)×Int} (H:g_customer_upto v0events v1t=some r):ACallS prog 63 [.d (slOf 7 Event.row v0events),.d (cI v1t)] ⟨[],[]⟩ (QE (.clo 70 [.ref 0 0,.ref 1 0]) ⟨[.row 22 [.d (slOf 7 Event.row r.1)],.row 3 [.d (cI r.2)]],[]⟩):=by
 refine ACallS.keep ?_
 refine ACallS.enter func63 rfl ntmps63 rfl fun S hS=>?_
 unfold g_customer_upto at H
 refine .A 11 [.r 0,.r 1,.g (.clo 70 [.ref 0 0,.ref 1 0])] rfl (OpQ.g (q_makeFunc rfl)) ?_
 refine .R func63 results63 rfl ?_
 cases H
 exact ⟨[0,1],[],rfl,rfl,rfl,rfl,rfl,rfl,rfl,rfl,.rfl' _⟩
theorem c_g_customer_world_changed {v1:Sub} {v2:Event} {o0c5p:List Int} {o0c6p:List Int} {o1c0p:List (Int×Account)} {o2c0p:List (Int×Sub)} {o3c0p:List (Int×Bool)} {o4c0p:List ((List UInt8)×Int)} {o5c0p:List (Int×Int)} {r:Sub×(List ((List UInt8)×Int))} (H:g_customer_world_changed v1 v2 o0c5p o0c6p o1c0p o2c0p o3c0p o4c0p o5c0p=some r):ACallS prog 72 [.ref 0 0,.d (.agg (Sub.row v1)),.d (.agg (Event.row v2))] ⟨[.row 116 [.mp 1,.mp 2,.mp 3,.mp 4,.mp 5,.d (slOf 1 rI o0c5p),.d (slOf 1 rI o0c6p)],.map (mEnc (fun n=>Value.int .i64 n) (fun x=>.agg (Account.row x)) o1c0p),.map (mEnc (fun n=>Value.int .i64 n) (fun x=>.agg (Sub.row x)) o2c0p),.map (mEnc (fun n=>Value.int .i64 n) (fun x=>cB x) o3c0p),.map (mEnc (fun s=>Value.string ⟨s.toArray⟩) (fun x=>cI x) o4c0p),.map (mEnc (fun n=>Value.int .i64 n) (fun x=>cI x) o5c0p)],[]⟩ (QE (.d (.agg (Sub.row r.1))) ⟨[.row 116 [.mp 1,.mp 2,.mp 3,.mp 4,.mp 5,.d (slOf 1 rI o0c5p),.d (slOf 1 rI o0c6p)],.map (mEnc (fun n=>Value.int .i64 n) (fun x=>.agg (Account.row x)) o1c0p),.map (mEnc (fun n=>Value.int .i64 n) (fun x=>.agg (Sub.row x)) o2c0p),.map (mEnc (fun n=>Value.int .i64 n) (fun x=>cB x) o3c0p),.map (mEnc (fun s=>Value.string ⟨s.toArray⟩) (fun x=>cI x) r.2),.map (mEnc (fun n=>Value.int .i64 n) (fun x=>cI x) o5c0p)],[]⟩):=by
 refine ACallS.keep ?_
 refine ACallS.enter func72 rfl ntmps72 rfl fun S hS=>?_
 unfold g_customer_world_changed at H
 refine .A 18 [.r 6,.r 7,.r 8] rfl trivial ?_
 refine .ite H rfl (fun H=>?_) (fun H=>?_)
 ·obtain ⟨y1,hy1,H⟩:=bind_some' H
  refine .A 28 [.p 8,.u ⟨[.row 116 [.mp 1,.mp 2,.mp 3,.mp 4,.mp 5,.d (slOf 1 rI o0c5p),.d (slOf 1 rI o0c6p)],.map (mEnc (fun n=>Value.int .i64 n) (fun x=>.agg (Account.row x)) o1c0p),.map (mEnc (fun n=>Value.int .i64 n) (fun x=>.agg (Sub.row x)) o2c0p),.map (mEnc (fun n=>Value.int .i64 n) (fun x=>cB x) o3c0p),.map (mEnc (fun s=>Value.string ⟨s.toArray⟩) (fun x=>cI x) (aset o4c0p v2.number v2.sub)),.map (mEnc (fun n=>Value.int .i64 n) (fun x=>cI x) o5c0p),.row 38 [.d (cI v1.id),.d (cI v1.account),.d (cI v1.since),.d (cS v1.plan),.d (slOf 1 rS v1.numbers),.d (slOf 1 rS v1.products),.d (cB v1.suspended),.d (cB v1.family)],.row 43 [.d (cI v2.at_),.d (cI v2.kind),.d (cI v2.account),.d (cI v2.sub),.d (cS v2.number),.d (cS v2.name),.d (cI v2.value)],.row 38 [.d (cI 0),.d (cI 0),.d (cI 0),.d (cS ([]:List UInt8)),.d (nilD),.d (nilD),.d (cB false),.d (cB false)]],[]⟩,.d (slOf 1 rS y1)] rfl ⟨g_call (en 27 rfl) rfl rfl (c_f_customer_place_string (hy1)),.e (u_mapUpdateD (strKF underlying9) (l:=o4c0p) (val:=(fun x=>cI x)) (k:=v2.number) (a:=v2.sub) underlying85 rfl rfl rfl (fun _ _ _ h=>exKey h) rfl (.rfl' _)) rfl,(show drawB _ _=true by kernel_rfl)⟩ ?_
  refine .R func72 results72 rfl ?_
  cases H
  exact ⟨[0,1,2,3,4,5],[],rfl,(okCons rfl (okCons okMap (okCons okMap (okCons okMap (okCons okMap (okCons okMap rfl)))))),(by first | rfl | (simp only [List.map_cons,List.map_nil,renMap,renArr,mergeSt]; rfl)),(by first | rfl | (simp only [List.map_cons,List.map_nil,renMap,renArr,mergeSt]; rfl)),(by first | rfl | (simp only [List.map_cons,List.map_nil,renMap,renArr,mergeSt]; rfl)),(by first | rfl | (simp only [List.map_cons,List.map_nil,renMap,renArr,mergeSt]; rfl)),(by first | rfl | (simp only [List.map_cons,List.map_nil,renMap,renArr,mergeSt]; rfl)),(by first | rfl | (simp only [List.map_cons,List.map_nil,renMap,renArr,mergeSt]; rfl)),.rfl' _⟩
 ·refine .A 5 [] rfl trivial ?_
  refine .ite H rfl (fun H=>?_) (fun H=>?_)
  ·obtain ⟨y2,hy2,H⟩:=bind_some' H
   refine .A 26 [.p 6,.v (.d (.tup [])) ⟨[.row 116 [.mp 1,.mp 2,.mp 3,.mp 4,.mp 5,.d (slOf 1 rI o0c5p),.d (slOf 1 rI o0c6p)],.map (mEnc (fun n=>Value.int .i64 n) (fun x=>.agg (Account.row x)) o1c0p),.map (mEnc (fun n=>Value.int .i64 n) (fun x=>.agg (Sub.row x)) o2c0p),.map (mEnc (fun n=>Value.int .i64 n) (fun x=>cB x) o3c0p),.map (mEnc (fun s=>Value.string ⟨s.toArray⟩) (fun x=>cI x) (aerase o4c0p v2.number)),.map (mEnc (fun n=>Value.int .i64 n) (fun x=>cI x) o5c0p),.row 38 [.d (cI v1.id),.d (cI v1.account),.d (cI v1.since),.d (cS v1.plan),.d (slOf 1 rS v1.numbers),.d (slOf 1 rS v1.products),.d (cB v1.suspended),.d (cB v1.family)],.row 43 [.d (cI v2.at_),.d (cI v2.kind),.d (cI v2.account),.d (cI v2.sub),.d (cS v2.number),.d (cS v2.name),.d (cI v2.value)],.row 38 [.d (cI 0),.d (cI 0),.d (cI 0),.d (cS ([]:List UInt8)),.d (nilD),.d (nilD),.d (cB false),.d (cB false)]],[]⟩,.d (slOf 1 rS y2)] rfl ⟨g_call (en 28 rfl) rfl rfl (c_f_customer_remove (hy2)),.e (v_deleteD (strKF underlying9) (l:=o4c0p) (val:=(fun x=>cI x)) (k:=v2.number) underlying85 rfl rfl rfl (fun _ _ _ h=>exKey h)) rfl,(show drawB _ _=true by kernel_rfl)⟩ ?_
   refine .R func72 results72 rfl ?_
   cases H
   exact ⟨[0,1,2,3,4,5],[],rfl,(okCons rfl (okCons okMap (okCons okMap (okCons okMap (okCons okMap (okCons okMap rfl)))))),(by first | rfl | (simp only [List.map_cons,List.map_nil,renMap,renArr,mergeSt]; rfl)),(by first | rfl | (simp only [List.map_cons,List.map_nil,renMap,renArr,mergeSt]; rfl)),(by first | rfl | (simp only [List.map_cons,List.map_nil,renMap,renArr,mergeSt]; rfl)),(by first | rfl | (simp only [List.map_cons,List.map_nil,renMap,renArr,mergeSt]; rfl)),(by first | rfl | (simp only [List.map_cons,List.map_nil,renMap,renArr,mergeSt]; rfl)),(by first | rfl | (simp only [List.map_cons,List.map_nil,renMap,renArr,mergeSt]; rfl)),.rfl' _⟩
  ·refine .A 5 [] rfl trivial ?_
   refine .ite H rfl (fun H=>?_) (fun H=>?_)
   ·refine .A 12 [] rfl trivial ?_
    refine .R func72 results72 rfl ?_
    cases H
    exact ⟨[0,1,2,3,4,5],[],rfl,(okCons rfl (okCons okMap (okCons okMap (okCons okMap (okCons okMap (okCons okMap rfl)))))),(by first | rfl | (simp only [List.map_cons,List.map_nil,renMap,renArr,mergeSt]; rfl)),(by first | rfl | (simp only [List.map_cons,List.map_nil,renMap,renArr,mergeSt]; rfl)),(by first | rfl | (simp only [List.map_cons,List.map_nil,renMap,renArr,mergeSt]; rfl)),(by first | rfl | (simp only [List.map_cons,List.map_nil,renMap,renArr,mergeSt]; rfl)),(by first | rfl | (simp only [List.map_cons,List.map_nil,renMap,renArr,mergeSt]; rfl)),(by first | rfl | (simp only [List.map_cons,List.map_nil,renMap,renArr,mergeSt]; rfl)),.rfl' _⟩
   ·refine .A 5 [] rfl trivial ?_
    refine .ite H rfl (fun H=>?_) (fun H=>?_)
    ·obtain ⟨y3,hy3,H⟩:=bind_some' H
     refine .A 15 [.d (slOf 1 rS y3)] rfl (g_call (en 27 rfl) rfl rfl (c_f_customer_place_string (hy3))) ?_
     refine .R func72 results72 rfl ?_
     cases H
     exact ⟨[0,1,2,3,4,5],[],rfl,(okCons rfl (okCons okMap (okCons okMap (okCons okMap (okCons okMap (okCons okMap rfl)))))),(by first | rfl | (simp only [List.map_cons,List.map_nil,renMap,renArr,mergeSt]; rfl)),(by first | rfl | (simp only [List.map_cons,List.map_nil,renMap,renArr,mergeSt]; rfl)),(by first | rfl | (simp only [List.map_cons,List.map_nil,renMap,renArr,mergeSt]; rfl)),(by first | rfl | (simp only [List.map_cons,List.map_nil,renMap,renArr,mergeSt]; rfl)),(by first | rfl | (simp only [List.map_cons,List.map_nil,renMap,renArr,mergeSt]; rfl)),(by first | rfl | (simp only [List.map_cons,List.map_nil,renMap,renArr,mergeSt]; rfl)),.rfl' _⟩
    ·refine .A 5 [] rfl trivial ?_
     refine .ite H rfl (fun H=>?_) (fun H=>?_)
     ·obtain ⟨y4,hy4,H⟩:=bind_some' H
      refine .A 15 [.d (slOf 1 rS y4)] rfl (g_call (en 28 rfl) rfl rfl (c_f_customer_remove (hy4))) ?_
      refine .R func72 results72 rfl ?_
      cases H
      exact ⟨[0,1,2,3,4,5],[],rfl,(okCons rfl (okCons okMap (okCons okMap (okCons okMap (okCons okMap (okCons okMap rfl)))))),(by first | rfl | (simp only [List.map_cons,List.map_nil,renMap,renArr,mergeSt]; rfl)),(by first | rfl | (simp only [List.map_cons,List.map_nil,renMap,renArr,mergeSt]; rfl)),(by first | rfl | (simp only [List.map_cons,List.map_nil,renMap,renArr,mergeSt]; rfl)),(by first | rfl | (simp only [List.map_cons,List.map_nil,renMap,renArr,mergeSt]; rfl)),(by first | rfl | (simp only [List.map_cons,List.map_nil,renMap,renArr,mergeSt]; rfl)),(by first | rfl | (simp only [List.map_cons,List.map_nil,renMap,renArr,mergeSt]; rfl)),.rfl' _⟩
     ·refine .A 5 [] rfl trivial ?_
      refine .ite H rfl (fun H=>?_) (fun H=>?_)
      ·refine .A 10 [] rfl trivial ?_
       refine .R func72 results72 rfl ?_
       cases H
       exact ⟨[0,1,2,3,4,5],[],rfl,(okCons rfl (okCons okMap (okCons okMap (okCons okMap (okCons okMap (okCons okMap rfl)))))),(by first | rfl | (simp only [List.map_cons,List.map_nil,renMap,renArr,mergeSt]; rfl)),(by first | rfl | (simp only [List.map_cons,List.map_nil,renMap,renArr,mergeSt]; rfl)),(by first | rfl | (simp only [List.map_cons,List.map_nil,renMap,renArr,mergeSt]; rfl)),(by first | rfl | (simp only [List.map_cons,List.map_nil,renMap,renArr,mergeSt]; rfl)),(by first | rfl | (simp only [List.map_cons,List.map_nil,renMap,renArr,mergeSt]; rfl)),(by first | rfl | (simp only [List.map_cons,List.map_nil,renMap,renArr,mergeSt]; rfl)),.rfl' _⟩
      ·refine .A 5 [] rfl trivial ?_
       refine .ite H rfl (fun H=>?_) (fun H=>?_)
       ·refine .A 10 [] rfl trivial ?_
        refine .R func72 results72 rfl ?_
        cases H
        exact ⟨[0,1,2,3,4,5],[],rfl,(okCons rfl (okCons okMap (okCons okMap (okCons okMap (okCons okMap (okCons okMap rfl)))))),(by first | rfl | (simp only [List.map_cons,List.map_nil,renMap,renArr,mergeSt]; rfl)),(by first | rfl | (simp only [List.map_cons,List.map_nil,renMap,renArr,mergeSt]; rfl)),(by first | rfl | (simp only [List.map_cons,List.map_nil,renMap,renArr,mergeSt]; rfl)),(by first | rfl | (simp only [List.map_cons,List.map_nil,renMap,renArr,mergeSt]; rfl)),(by first | rfl | (simp only [List.map_cons,List.map_nil,renMap,renArr,mergeSt]; rfl)),(by first | rfl | (simp only [List.map_cons,List.map_nil,renMap,renArr,mergeSt]; rfl)),.rfl' _⟩
       ·refine .A 5 [] rfl trivial ?_
        refine .ite H rfl (fun H=>?_) (fun H=>?_)
        ·refine .A 10 [] rfl trivial ?_
         refine .R func72 results72 rfl ?_
         cases H
         exact ⟨[0,1,2,3,4,5],[],rfl,(okCons rfl (okCons okMap (okCons okMap (okCons okMap (okCons okMap (okCons okMap rfl)))))),(by first | rfl | (simp only [List.map_cons,List.map_nil,renMap,renArr,mergeSt]; rfl)),(by first | rfl | (simp only [List.map_cons,List.map_nil,renMap,renArr,mergeSt]; rfl)),(by first | rfl | (simp only [List.map_cons,List.map_nil,renMap,renArr,mergeSt]; rfl)),(by first | rfl | (simp only [List.map_cons,List.map_nil,renMap,renArr,mergeSt]; rfl)),(by first | rfl | (simp only [List.map_cons,List.map_nil,renMap,renArr,mergeSt]; rfl)),(by first | rfl | (simp only [List.map_cons,List.map_nil,renMap,renArr,mergeSt]; rfl)),.rfl' _⟩
        ·refine .A 5 [] rfl trivial ?_
         refine .ite H rfl (fun H=>?_) (fun H=>?_)
         ·refine .A 10 [] rfl trivial ?_
          refine .R func72 results72 rfl ?_
          cases H
          exact ⟨[0,1,2,3,4,5],[],rfl,(okCons rfl (okCons okMap (okCons okMap (okCons okMap (okCons okMap (okCons okMap rfl)))))),(by first | rfl | (simp only [List.map_cons,List.map_nil,renMap,renArr,mergeSt]; rfl)),(by first | rfl | (simp only [List.map_cons,List.map_nil,renMap,renArr,mergeSt]; rfl)),(by first | rfl | (simp only [List.map_cons,List.map_nil,renMap,renArr,mergeSt]; rfl)),(by first | rfl | (simp only [List.map_cons,List.map_nil,renMap,renArr,mergeSt]; rfl)),(by first | rfl | (simp only [List.map_cons,List.map_nil,renMap,renArr,mergeSt]; rfl)),(by first | rfl | (simp only [List.map_cons,List.map_nil,renMap,renArr,mergeSt]; rfl)),.rfl' _⟩
         ·refine .A 7 [] rfl trivial ?_
          refine .R func72 results72 rfl ?_
          cases H
          exact ⟨[0,1,2,3,4,5],[],rfl,(okCons rfl (okCons okMap (okCons okMap (okCons okMap (okCons okMap (okCons okMap rfl)))))),(by first | rfl | (simp only [List.map_cons,List.map_nil,renMap,renArr,mergeSt]; rfl)),(by first | rfl | (simp only [List.map_cons,List.map_nil,renMap,renArr,mergeSt]; rfl)),(by first | rfl | (simp only [List.map_cons,List.map_nil,renMap,renArr,mergeSt]; rfl)),(by first | rfl | (simp only [List.map_cons,List.map_nil,renMap,renArr,mergeSt]; rfl)),(by first | rfl | (simp only [List.map_cons,List.map_nil,renMap,renArr,mergeSt]; rfl)),(by first | rfl | (simp only [List.map_cons,List.map_nil,renMap,renArr,mergeSt]; rfl)),.rfl' _⟩
theorem c_g_customer_world_apply {v1:Event} {o0c5p:List Int} {o0c6p:List Int} {o1c0p:List (Int×Account)} {o2c0p:List (Int×Sub)} {o3c0p:List (Int×Bool)} {o4c0p:List ((List UInt8)×Int)} {o5c0p:List (Int×Int)} {r:(List Int)×(List Int)×(List (Int×Account))×(List (Int×Sub))×(List (Int×Bool))×(List ((List UInt8)×Int))×(List (Int×Int))} (H:g_customer_world_apply v1 o0c5p o0c6p o1c0p o2c0p o3c0p o4c0p o5c0p=some r):ACallS prog 64 [.ref 0 0,.d (.agg (Event.row v1))] ⟨[.row 116 [.mp 1,.mp 2,.mp 3,.mp 4,.mp 5,.d (slOf 1 rI o0c5p),.d (slOf 1 rI o0c6p)],.map (mEnc (fun n=>Value.int .i64 n) (fun x=>.agg (Account.row x)) o1c0p),.map (mEnc (fun n=>Value.int .i64 n) (fun x=>.agg (Sub.row x)) o2c0p),.map (mEnc (fun n=>Value.int .i64 n) (fun x=>cB x) o3c0p),.map (mEnc (fun s=>Value.string ⟨s.toArray⟩) (fun x=>cI x) o4c0p),.map (mEnc (fun n=>Value.int .i64 n) (fun x=>cI x) o5c0p)],[]⟩ (QE (.d (.tup [])) ⟨[.row 116 [.mp 1,.mp 2,.mp 3,.mp 4,.mp 5,.d (slOf 1 rI r.1),.d (slOf 1 rI r.2.1)],.map (mEnc (fun n=>Value.int .i64 n) (fun x=>.agg (Account.row x)) r.2.2.1),.map (mEnc (fun n=>Value.int .i64 n) (fun x=>.agg (Sub.row x)) r.2.2.2.1),.map (mEnc (fun n=>Value.int .i64 n) (fun x=>cB x) r.2.2.2.2.1),.map (mEnc (fun s=>Value.string ⟨s.toArray⟩) (fun x=>cI x) r.2.2.2.2.2.1),.map (mEnc (fun n=>Value.int .i64 n) (fun x=>cI x) r.2.2.2.2.2.2)],[]⟩):=by
 obtain ⟨i3,hi3,hz3,hs3,hb3⟩:=in_3
 obtain ⟨i4,hi4,hz4,hs4,hb4⟩:=in_4
 obtain ⟨i38,hi38,hz38,hs38,hb38⟩:=in_38
 obtain ⟨i77,hi77,hz77,hs77,hb77⟩:=in_77
 refine ACallS.keep ?_
 refine ACallS.enter func64 rfl ntmps64 rfl fun S hS=>?_
 unfold g_customer_world_apply at H
 refine .A 15 [.r 6] rfl trivial ?_
 refine .ite H rfl (fun H=>?_) (fun H=>?_)
 ·refine .seqJoin (ι:=List Int) (fun o0c5j1=>[(0,.ref 0 0),(3,.ref 6 0)]) (fun o0c5j1=>⟨[.row 116 [.mp 1,.mp 2,.mp 3,.mp 4,.mp 5,.d (slOf 1 rI o0c5j1),.d (slOf 1 rI o0c6p)],.map (mEnc (fun n=>Value.int .i64 n) (fun x=>.agg (Account.row x)) o1c0p),.map (mEnc (fun n=>Value.int .i64 n) (fun x=>.agg (Sub.row x)) o2c0p),.map (mEnc (fun n=>Value.int .i64 n) (fun x=>cB x) o3c0p),.map (mEnc (fun s=>Value.string ⟨s.toArray⟩) (fun x=>cI x) o4c0p),.map (mEnc (fun n=>Value.int .i64 n) (fun x=>cI x) o5c0p),.row 43 [.d (cI v1.at_),.d (cI v1.kind),.d (cI v1.account),.d (cI v1.sub),.d (cS v1.number),.d (cS v1.name),.d (cI v1.value)],.row 77 [.d (cI (((alook o1c0p v1.account).getD (⟨0,0,0,false,false,([]:List Int)⟩:Account)).id)),.d (cI (((alook o1c0p v1.account).getD (⟨0,0,0,false,false,([]:List Int)⟩:Account)).since)),.d (cI (((alook o1c0p v1.account).getD (⟨0,0,0,false,false,([]:List Int)⟩:Account)).anchor)),.d (cB (((alook o1c0p v1.account).getD (⟨0,0,0,false,false,([]:List Int)⟩:Account)).prepaid)),.d (cB (((alook o1c0p v1.account).getD (⟨0,0,0,false,false,([]:List Int)⟩:Account)).closed)),.d (slOf 1 rI (((alook o1c0p v1.account).getD (⟨0,0,0,false,false,([]:List Int)⟩:Account)).subs))]],[]⟩) (fun s=>g_customer_world_apply_j1 v1 o0c6p o1c0p o2c0p o3c0p o4c0p o5c0p s=some r) ?_ ?_
  ·rintro o0c5j1 H
   replace H:g_customer_world_apply_j1 v1 o0c6p o1c0p o2c0p o3c0p o4c0p o5c0p o0c5j1=some r:=H
   unfold g_customer_world_apply_j1 at H
   refine .A 21 [.p 16,.d (.agg (Account.row (⟨v1.account,v1.at_,v1.value,(v1.name==([112,114,101,112,97,105,100]:List UInt8)),false,([]:List Int)⟩:Account))),.u ⟨[.row 116 [.mp 1,.mp 2,.mp 3,.mp 4,.mp 5,.d (slOf 1 rI o0c5j1),.d (slOf 1 rI o0c6p)],.map (mEnc (fun n=>Value.int .i64 n) (fun x=>.agg (Account.row x)) (aset o1c0p v1.account (⟨v1.account,v1.at_,v1.value,(v1.name==([112,114,101,112,97,105,100]:List UInt8)),false,([]:List Int)⟩:Account))),.map (mEnc (fun n=>Value.int .i64 n) (fun x=>.agg (Sub.row x)) o2c0p),.map (mEnc (fun n=>Value.int .i64 n) (fun x=>cB x) o3c0p),.map (mEnc (fun s=>Value.string ⟨s.toArray⟩) (fun x=>cI x) o4c0p),.map (mEnc (fun n=>Value.int .i64 n) (fun x=>cI x) o5c0p),.row 43 [.d (cI v1.at_),.d (cI v1.kind),.d (cI v1.account),.d (cI v1.sub),.d (cS v1.number),.d (cS v1.name),.d (cI v1.value)],.row 77 [.d (cI (((alook o1c0p v1.account).getD (⟨0,0,0,false,false,([]:List Int)⟩:Account)).id)),.d (cI (((alook o1c0p v1.account).getD (⟨0,0,0,false,false,([]:List Int)⟩:Account)).since)),.d (cI (((alook o1c0p v1.account).getD (⟨0,0,0,false,false,([]:List Int)⟩:Account)).anchor)),.d (cB (((alook o1c0p v1.account).getD (⟨0,0,0,false,false,([]:List Int)⟩:Account)).prepaid)),.d (cB (((alook o1c0p v1.account).getD (⟨0,0,0,false,false,([]:List Int)⟩:Account)).closed)),.d (slOf 1 rI (((alook o1c0p v1.account).getD (⟨0,0,0,false,false,([]:List Int)⟩:Account)).subs))]],[]⟩] rfl ⟨.e (u_mapUpdateD (intKF underlying3) (l:=o1c0p) (val:=(fun x=>.agg (Account.row x))) (k:=v1.account) (a:=(⟨v1.account,v1.at_,v1.value,(v1.name==([112,114,101,112,97,105,100]:List UInt8)),false,([]:List Int)⟩:Account)) underlying111 rfl rfl rfl (fun _ _ _ h=>exKey h) rfl (.rfl' _)) rfl,OpQ.g (OpQ.le (q_buildP pl_77 hi77 hz77 rfl rfl) (EVle.d (.agg ⟨.rfl' _,.rfl' _,.rfl' _,.rfl' _,.rfl' _,.nil 1,trivial⟩))),(show drawB _ _=true by kernel_rfl)⟩ ?_
   refine .fin0 func64 results64 ?_
   cases H
   exact ⟨[0,1,2,3,4,5],[],rfl,(okCons rfl (okCons okMap (okCons okMap (okCons okMap (okCons okMap (okCons okMap rfl)))))),(by first | rfl | (simp only [List.map_cons,List.map_nil,renMap,renArr,mergeSt]; rfl)),(by first | rfl | (simp only [List.map_cons,List.map_nil,renMap,renArr,mergeSt]; rfl)),(by first | rfl | (simp only [List.map_cons,List.map_nil,renMap,renArr,mergeSt]; rfl)),(by first | rfl | (simp only [List.map_cons,List.map_nil,renMap,renArr,mergeSt]; rfl)),(by first | rfl | (simp only [List.map_cons,List.map_nil,renMap,renArr,mergeSt]; rfl)),(by first | rfl | (simp only [List.map_cons,List.map_nil,renMap,renArr,mergeSt]; rfl)),EVle.tupL (ds:=[]) trivial⟩
  ·intro hj1
   refine .A 1 [] rfl trivial ?_
   refine .orders2 12 10 11 [⟨[.row 116 [.mp 1,.mp 2,.mp 3,.mp 4,.mp 5,.d (slOf 1 rI o0c5p),.d (slOf 1 rI o0c6p)],.map (mEnc (fun n=>Value.int .i64 n) (fun x=>.agg (Account.row x)) o1c0p),.map (mEnc (fun n=>Value.int .i64 n) (fun x=>.agg (Sub.row x)) o2c0p),.map (mEnc (fun n=>Value.int .i64 n) (fun x=>cB x) o3c0p),.map (mEnc (fun s=>Value.string ⟨s.toArray⟩) (fun x=>cI x) o4c0p),.map (mEnc (fun n=>Value.int .i64 n) (fun x=>cI x) o5c0p),.row 43 [.d (cI v1.at_),.d (cI v1.kind),.d (cI v1.account),.d (cI v1.sub),.d (cS v1.number),.d (cS v1.name),.d (cI v1.value)]],[]⟩,⟨[.row 116 [.mp 1,.mp 2,.mp 3,.mp 4,.mp 5,.d (slOf 1 rI o0c5p),.d (slOf 1 rI o0c6p)],.map (mEnc (fun n=>Value.int .i64 n) (fun x=>.agg (Account.row x)) o1c0p),.map (mEnc (fun n=>Value.int .i64 n) (fun x=>.agg (Sub.row x)) o2c0p),.map (mEnc (fun n=>Value.int .i64 n) (fun x=>cB x) o3c0p),.map (mEnc (fun s=>Value.string ⟨s.toArray⟩) (fun x=>cI x) o4c0p),.map (mEnc (fun n=>Value.int .i64 n) (fun x=>cI x) o5c0p),.row 43 [.d (cI v1.at_),.d (cI v1.kind),.d (cI v1.account),.d (cI v1.sub),.d (cS v1.number),.d (cS v1.name),.d (cI v1.value)],.row 77 [.d (cI 0),.d (cI 0),.d (cI 0),.d (cB false),.d (cB false),.d (nilD)]],[]⟩,⟨[.row 116 [.mp 1,.mp 2,.mp 3,.mp 4,.mp 5,.d (slOf 1 rI o0c5p),.d (slOf 1 rI o0c6p)],.map (mEnc (fun n=>Value.int .i64 n) (fun x=>.agg (Account.row x)) o1c0p),.map (mEnc (fun n=>Value.int .i64 n) (fun x=>.agg (Sub.row x)) o2c0p),.map (mEnc (fun n=>Value.int .i64 n) (fun x=>cB x) o3c0p),.map (mEnc (fun s=>Value.string ⟨s.toArray⟩) (fun x=>cI x) o4c0p),.map (mEnc (fun n=>Value.int .i64 n) (fun x=>cI x) o5c0p),.row 43 [.d (cI v1.at_),.d (cI v1.kind),.d (cI v1.account),.d (cI v1.sub),.d (cS v1.number),.d (cS v1.name),.d (cI v1.value)],.row 77 [.d (cI (((alook o1c0p v1.account).getD (⟨0,0,0,false,false,([]:List Int)⟩:Account)).id)),.d (cI (((alook o1c0p v1.account).getD (⟨0,0,0,false,false,([]:List Int)⟩:Account)).since)),.d (cI (((alook o1c0p v1.account).getD (⟨0,0,0,false,false,([]:List Int)⟩:Account)).anchor)),.d (cB (((alook o1c0p v1.account).getD (⟨0,0,0,false,false,([]:List Int)⟩:Account)).prepaid)),.d (cB (((alook o1c0p v1.account).getD (⟨0,0,0,false,false,([]:List Int)⟩:Account)).closed)),.d (slOf 1 rI (((alook o1c0p v1.account).getD (⟨0,0,0,false,false,([]:List Int)⟩:Account)).subs))]],[]⟩] hMix (by kernel_rfl) (by decide) (by decide) (by kernel_rfl) rfl ?_
   show XOps _ _ _ _ _ _ _ _ _ _ (_ :: _) _ _
   refine .g (x:=.ref 0 0) 0 1 ⟨OpQ.g (q_move rfl),OpQ.g (q_move rfl),trivial⟩ rfl (by kernel_rfl) rfl ?_
   refine .g (x:=.ref 0 0) 0 1 ⟨OpQ.g (q_nilRef rfl),OpQ.g (q_nilRef rfl),trivial⟩ rfl (by kernel_rfl) rfl ?_
   refine .g (x:=.ref 0 0) 0 1 ⟨OpQ.g (q_fieldRef fo_116_0 rfl),OpQ.g (q_fieldRef fo_116_0 rfl),trivial⟩ rfl (by kernel_rfl) rfl ?_
   refine .g (x:=.mp 1) 0 1 ⟨OpQ.g (q_loadO one_111 rfl rfl rfl),OpQ.g (q_loadO one_111 rfl rfl rfl),trivial⟩ rfl (by kernel_rfl) rfl ?_
   refine .g (x:=.ref 6 2) 0 1 ⟨OpQ.g (q_fieldRef fo_43_2 rfl),OpQ.g (q_fieldRef fo_43_2 rfl),trivial⟩ rfl (by kernel_rfl) rfl ?_
   refine .g (x:=.d (cI v1.account)) 0 1 ⟨OpQ.g (q_loadO one_3 rfl rfl rfl),OpQ.g (q_loadO one_3 rfl rfl rfl),trivial⟩ rfl (by kernel_rfl) rfl ?_
   refine .g (x:=.d (.tup [.agg (Account.row ((alook o1c0p v1.account).getD (⟨0,0,0,false,false,([]:List Int)⟩:Account))),cB ((alook o1c0p v1.account).isSome)])) 0 1 ⟨OpQ.g (q_lookupOkD (intKF underlying3) (l:=o1c0p) (val:=(fun x=>.agg (Account.row x))) (k:=v1.account) (a0:=(⟨0,0,0,false,false,([]:List Int)⟩:Account)) underlying111 hi77 hz77 (show DLe (.agg [cI 0,cI 0,cI 0,cB false,cB false,nilD]) (.agg (Account.row (⟨0,0,0,false,false,([]:List Int)⟩:Account))) from .agg ⟨.rfl' _,.rfl' _,.rfl' _,.rfl' _,.rfl' _,.nil 1,trivial⟩) rfl rfl rfl (fun _ _ _ h=>exKey h)),OpQ.g (q_lookupOkD (intKF underlying3) (l:=o1c0p) (val:=(fun x=>.agg (Account.row x))) (k:=v1.account) (a0:=(⟨0,0,0,false,false,([]:List Int)⟩:Account)) underlying111 hi77 hz77 (show DLe (.agg [cI 0,cI 0,cI 0,cB false,cB false,nilD]) (.agg (Account.row (⟨0,0,0,false,false,([]:List Int)⟩:Account))) from .agg ⟨.rfl' _,.rfl' _,.rfl' _,.rfl' _,.rfl' _,.nil 1,trivial⟩) rfl rfl rfl (fun _ _ _ h=>exKey h)),trivial⟩ rfl (by kernel_rfl) rfl ?_
   refine .g (x:=.d (.tup [.agg (Account.row ((alook o1c0p v1.account).getD (⟨0,0,0,false,false,([]:List Int)⟩:Account))),cB ((alook o1c0p v1.account).isSome)])) 0 1 ⟨OpQ.g (q_move rfl),OpQ.g (q_move rfl),trivial⟩ rfl (by kernel_rfl) rfl ?_
   refine .g (x:=.d (.agg (Account.row ((alook o1c0p v1.account).getD (⟨0,0,0,false,false,([]:List Int)⟩:Account))))) 0 1 ⟨OpQ.g (q_extract rfl rfl),OpQ.g (q_extract rfl rfl),trivial⟩ rfl (by kernel_rfl) rfl ?_
   refine .g (x:=.d (cB ((alook o1c0p v1.account).isSome))) 0 2 ⟨OpQ.g (q_extract rfl rfl),OpQ.g (q_extract rfl rfl),OpQ.g (q_extract rfl rfl),trivial⟩ rfl (by kernel_rfl) rfl ?_
   refine .v (x:=.ref 7 0) 0 (v_alloc zr_77 rfl) rfl rfl rfl rfl ?_
   refine .u 1 (u_store rfl rfl rfl rfl (Nat.le_of_ble_eq_true rfl) sz_77) rfl rfl rfl rfl ?_
   refine .nil rfl ?_
   show AOps _ _ _ _ _ _ (_ :: _) _ _ _
   refine .A 7 [] rfl trivial ?_
   refine .ite H rfl (fun H=>?_) (fun H=>?_)
   ·obtain ⟨y1,hy1,H⟩:=bind_some' H
    refine .A 14 [.p 10,.d (slOf 1 rI y1)] rfl ⟨g_call (en 29 rfl) rfl rfl (c_f_customer_place_int (hy1)),(show drawB _ _=true by kernel_rfl)⟩ ?_
    exact .z (hj1 y1 H) rfl rfl
   ·refine .A 1 [] rfl trivial ?_
    exact .z (hj1 o0c5p H) rfl rfl
 ·refine .A 5 [] rfl trivial ?_
  refine .ite H rfl (fun H=>?_) (fun H=>?_)
  ·refine .A 1 [] rfl trivial ?_
   refine .orders1 8 7 [⟨[.row 116 [.mp 1,.mp 2,.mp 3,.mp 4,.mp 5,.d (slOf 1 rI o0c5p),.d (slOf 1 rI o0c6p)],.map (mEnc (fun n=>Value.int .i64 n) (fun x=>.agg (Account.row x)) o1c0p),.map (mEnc (fun n=>Value.int .i64 n) (fun x=>.agg (Sub.row x)) o2c0p),.map (mEnc (fun n=>Value.int .i64 n) (fun x=>cB x) o3c0p),.map (mEnc (fun s=>Value.string ⟨s.toArray⟩) (fun x=>cI x) o4c0p),.map (mEnc (fun n=>Value.int .i64 n) (fun x=>cI x) o5c0p),.row 43 [.d (cI v1.at_),.d (cI v1.kind),.d (cI v1.account),.d (cI v1.sub),.d (cS v1.number),.d (cS v1.name),.d (cI v1.value)]],[]⟩,⟨[.row 116 [.mp 1,.mp 2,.mp 3,.mp 4,.mp 5,.d (slOf 1 rI o0c5p),.d (slOf 1 rI o0c6p)],.map (mEnc (fun n=>Value.int .i64 n) (fun x=>.agg (Account.row x)) o1c0p),.map (mEnc (fun n=>Value.int .i64 n) (fun x=>.agg (Sub.row x)) o2c0p),.map (mEnc (fun n=>Value.int .i64 n) (fun x=>cB x) o3c0p),.map (mEnc (fun s=>Value.string ⟨s.toArray⟩) (fun x=>cI x) o4c0p),.map (mEnc (fun n=>Value.int .i64 n) (fun x=>cI x) o5c0p),.row 43 [.d (cI v1.at_),.d (cI v1.kind),.d (cI v1.account),.d (cI v1.sub),.d (cS v1.number),.d (cS v1.name),.d (cI v1.value)],.row 77 [.d (cI 0),.d (cI 0),.d (cI 0),.d (cB false),.d (cB false),.d (nilD)]],[]⟩] hMix (by kernel_rfl) (by decide) rfl ?_
   show XOps _ _ _ _ _ _ _ _ _ _ (_ :: _) _ _
   refine .g (x:=.ref 0 0) 0 1 ⟨OpQ.g (q_move rfl),OpQ.g (q_move rfl),trivial⟩ rfl (by kernel_rfl) rfl ?_
   refine .g (x:=.ref 0 0) 0 1 ⟨OpQ.g (q_nilRef rfl),OpQ.g (q_nilRef rfl),trivial⟩ rfl (by kernel_rfl) rfl ?_
   refine .g (x:=.ref 0 0) 0 1 ⟨OpQ.g (q_fieldRef fo_116_0 rfl),OpQ.g (q_fieldRef fo_116_0 rfl),trivial⟩ rfl (by kernel_rfl) rfl ?_
   refine .g (x:=.mp 1) 0 1 ⟨OpQ.g (q_loadO one_111 rfl rfl rfl),OpQ.g (q_loadO one_111 rfl rfl rfl),trivial⟩ rfl (by kernel_rfl) rfl ?_
   refine .g (x:=.ref 6 2) 0 1 ⟨OpQ.g (q_fieldRef fo_43_2 rfl),OpQ.g (q_fieldRef fo_43_2 rfl),trivial⟩ rfl (by kernel_rfl) rfl ?_
   refine .g (x:=.d (cI v1.account)) 0 1 ⟨OpQ.g (q_loadO one_3 rfl rfl rfl),OpQ.g (q_loadO one_3 rfl rfl rfl),trivial⟩ rfl (by kernel_rfl) rfl ?_
   refine .g (x:=.d (.agg (Account.row ((alook o1c0p v1.account).getD (⟨0,0,0,false,false,([]:List Int)⟩:Account))))) 0 1 ⟨OpQ.g (q_lookupD (intKF underlying3) (l:=o1c0p) (val:=(fun x=>.agg (Account.row x))) (k:=v1.account) (a0:=(⟨0,0,0,false,false,([]:List Int)⟩:Account)) underlying111 hi77 hz77 (show DLe (.agg [cI 0,cI 0,cI 0,cB false,cB false,nilD]) (.agg (Account.row (⟨0,0,0,false,false,([]:List Int)⟩:Account))) from .agg ⟨.rfl' _,.rfl' _,.rfl' _,.rfl' _,.rfl' _,.nil 1,trivial⟩) rfl rfl rfl (fun _ _ _ h=>exKey h)),OpQ.g (q_lookupD (intKF underlying3) (l:=o1c0p) (val:=(fun x=>.agg (Account.row x))) (k:=v1.account) (a0:=(⟨0,0,0,false,false,([]:List Int)⟩:Account)) underlying111 hi77 hz77 (show DLe (.agg [cI 0,cI 0,cI 0,cB false,cB false,nilD]) (.agg (Account.row (⟨0,0,0,false,false,([]:List Int)⟩:Account))) from .agg ⟨.rfl' _,.rfl' _,.rfl' _,.rfl' _,.rfl' _,.nil 1,trivial⟩) rfl rfl rfl (fun _ _ _ h=>exKey h)),trivial⟩ rfl (by kernel_rfl) rfl ?_
   refine .v (x:=.ref 7 0) 0 (v_alloc zr_77 rfl) rfl rfl rfl rfl ?_
   refine .nil rfl ?_
   show AOps _ _ _ _ _ _ (_ :: _) _ _ _
   refine .A 19 [.p 7,.u ⟨[.row 116 [.mp 1,.mp 2,.mp 3,.mp 4,.mp 5,.d (slOf 1 rI o0c5p),.d (slOf 1 rI o0c6p)],.map (mEnc (fun n=>Value.int .i64 n) (fun x=>.agg (Account.row x)) (aset o1c0p v1.account (⟨((alook o1c0p v1.account).getD (⟨0,0,0,false,false,([]:List Int)⟩:Account)).id,((alook o1c0p v1.account).getD (⟨0,0,0,false,false,([]:List Int)⟩:Account)).since,((alook o1c0p v1.account).getD (⟨0,0,0,false,false,([]:List Int)⟩:Account)).anchor,((alook o1c0p v1.account).getD (⟨0,0,0,false,false,([]:List Int)⟩:Account)).prepaid,true,((alook o1c0p v1.account).getD (⟨0,0,0,false,false,([]:List Int)⟩:Account)).subs⟩:Account))),.map (mEnc (fun n=>Value.int .i64 n) (fun x=>.agg (Sub.row x)) o2c0p),.map (mEnc (fun n=>Value.int .i64 n) (fun x=>cB x) o3c0p),.map (mEnc (fun s=>Value.string ⟨s.toArray⟩) (fun x=>cI x) o4c0p),.map (mEnc (fun n=>Value.int .i64 n) (fun x=>cI x) o5c0p),.row 43 [.d (cI v1.at_),.d (cI v1.kind),.d (cI v1.account),.d (cI v1.sub),.d (cS v1.number),.d (cS v1.name),.d (cI v1.value)],.row 77 [.d (cI (((alook o1c0p v1.account).getD (⟨0,0,0,false,false,([]:List Int)⟩:Account)).id)),.d (cI (((alook o1c0p v1.account).getD (⟨0,0,0,false,false,([]:List Int)⟩:Account)).since)),.d (cI (((alook o1c0p v1.account).getD (⟨0,0,0,false,false,([]:List Int)⟩:Account)).anchor)),.d (cB (((alook o1c0p v1.account).getD (⟨0,0,0,false,false,([]:List Int)⟩:Account)).prepaid)),.d (cB true),.d (slOf 1 rI (((alook o1c0p v1.account).getD (⟨0,0,0,false,false,([]:List Int)⟩:Account)).subs))]],[]⟩] rfl ⟨.e (u_mapUpdateD (intKF underlying3) (l:=o1c0p) (val:=(fun x=>.agg (Account.row x))) (k:=v1.account) (a:=(⟨((alook o1c0p v1.account).getD (⟨0,0,0,false,false,([]:List Int)⟩:Account)).id,((alook o1c0p v1.account).getD (⟨0,0,0,false,false,([]:List Int)⟩:Account)).since,((alook o1c0p v1.account).getD (⟨0,0,0,false,false,([]:List Int)⟩:Account)).anchor,((alook o1c0p v1.account).getD (⟨0,0,0,false,false,([]:List Int)⟩:Account)).prepaid,true,((alook o1c0p v1.account).getD (⟨0,0,0,false,false,([]:List Int)⟩:Account)).subs⟩:Account)) underlying111 rfl rfl rfl (fun _ _ _ h=>exKey h) rfl (.rfl' _)) rfl,(show drawB _ _=true by kernel_rfl)⟩ ?_
   refine .fin0 func64 results64 ?_
   cases H
   exact ⟨[0,1,2,3,4,5],[],rfl,(okCons rfl (okCons okMap (okCons okMap (okCons okMap (okCons okMap (okCons okMap rfl)))))),(by first | rfl | (simp only [List.map_cons,List.map_nil,renMap,renArr,mergeSt]; rfl)),(by first | rfl | (simp only [List.map_cons,List.map_nil,renMap,renArr,mergeSt]; rfl)),(by first | rfl | (simp only [List.map_cons,List.map_nil,renMap,renArr,mergeSt]; rfl)),(by first | rfl | (simp only [List.map_cons,List.map_nil,renMap,renArr,mergeSt]; rfl)),(by first | rfl | (simp only [List.map_cons,List.map_nil,renMap,renArr,mergeSt]; rfl)),(by first | rfl | (simp only [List.map_cons,List.map_nil,renMap,renArr,mergeSt]; rfl)),EVle.tupL (ds:=[]) trivial⟩
  ·refine .A 5 [] rfl trivial ?_
   refine .ite H rfl (fun H=>?_) (fun H=>?_)
   ·refine .seqJoin (ι:=List Int) (fun o0c6j2=>[(0,.ref 0 0),(3,.ref 6 0)]) (fun o0c6j2=>⟨[.row 116 [.mp 1,.mp 2,.mp 3,.mp 4,.mp 5,.d (slOf 1 rI o0c5p),.d (slOf 1 rI o0c6j2)],.map (mEnc (fun n=>Value.int .i64 n) (fun x=>.agg (Account.row x)) o1c0p),.map (mEnc (fun n=>Value.int .i64 n) (fun x=>.agg (Sub.row x)) o2c0p),.map (mEnc (fun n=>Value.int .i64 n) (fun x=>cB x) o3c0p),.map (mEnc (fun s=>Value.string ⟨s.toArray⟩) (fun x=>cI x) o4c0p),.map (mEnc (fun n=>Value.int .i64 n) (fun x=>cI x) o5c0p),.row 43 [.d (cI v1.at_),.d (cI v1.kind),.d (cI v1.account),.d (cI v1.sub),.d (cS v1.number),.d (cS v1.name),.d (cI v1.value)]],[]⟩) (fun s=>g_customer_world_apply_j2 v1 o0c5p o1c0p o2c0p o3c0p o4c0p o5c0p s=some r) ?_ ?_
    ·rintro o0c6j2 H
     replace H:g_customer_world_apply_j2 v1 o0c5p o1c0p o2c0p o3c0p o4c0p o5c0p o0c6j2=some r:=H
     unfold g_customer_world_apply_j2 at H
     obtain ⟨hk1,H⟩:=ck_some H
     refine .A 44 [.p 6,.u ⟨[.row 116 [.mp 1,.mp 2,.mp 3,.mp 4,.mp 5,.d (slOf 1 rI o0c5p),.d (slOf 1 rI o0c6j2)],.map (mEnc (fun n=>Value.int .i64 n) (fun x=>.agg (Account.row x)) o1c0p),.map (mEnc (fun n=>Value.int .i64 n) (fun x=>.agg (Sub.row x)) o2c0p),.map (mEnc (fun n=>Value.int .i64 n) (fun x=>cB x) (aset o3c0p v1.sub true)),.map (mEnc (fun s=>Value.string ⟨s.toArray⟩) (fun x=>cI x) o4c0p),.map (mEnc (fun n=>Value.int .i64 n) (fun x=>cI x) o5c0p),.row 43 [.d (cI v1.at_),.d (cI v1.kind),.d (cI v1.account),.d (cI v1.sub),.d (cS v1.number),.d (cS v1.name),.d (cI v1.value)]],[]⟩,.p 8,.i ((alook o5c0p v1.account).getD 0),.i (((alook o5c0p v1.account).getD 0)+1),.u ⟨[.row 116 [.mp 1,.mp 2,.mp 3,.mp 4,.mp 5,.d (slOf 1 rI o0c5p),.d (slOf 1 rI o0c6j2)],.map (mEnc (fun n=>Value.int .i64 n) (fun x=>.agg (Account.row x)) o1c0p),.map (mEnc (fun n=>Value.int .i64 n) (fun x=>.agg (Sub.row x)) o2c0p),.map (mEnc (fun n=>Value.int .i64 n) (fun x=>cB x) (aset o3c0p v1.sub true)),.map (mEnc (fun s=>Value.string ⟨s.toArray⟩) (fun x=>cI x) o4c0p),.map (mEnc (fun n=>Value.int .i64 n) (fun x=>cI x) (aset o5c0p v1.account (((alook o5c0p v1.account).getD 0)+1))),.row 43 [.d (cI v1.at_),.d (cI v1.kind),.d (cI v1.account),.d (cI v1.sub),.d (cS v1.number),.d (cS v1.name),.d (cI v1.value)]],[]⟩,.p 15,.d (.agg (Sub.row (⟨v1.sub,v1.account,v1.at_,v1.name,([]:List (List UInt8)),([]:List (List UInt8)),false,false⟩:Sub))),.u ⟨[.row 116 [.mp 1,.mp 2,.mp 3,.mp 4,.mp 5,.d (slOf 1 rI o0c5p),.d (slOf 1 rI o0c6j2)],.map (mEnc (fun n=>Value.int .i64 n) (fun x=>.agg (Account.row x)) o1c0p),.map (mEnc (fun n=>Value.int .i64 n) (fun x=>.agg (Sub.row x)) (aset o2c0p v1.sub (⟨v1.sub,v1.account,v1.at_,v1.name,([]:List (List UInt8)),([]:List (List UInt8)),false,false⟩:Sub))),.map (mEnc (fun n=>Value.int .i64 n) (fun x=>cB x) (aset o3c0p v1.sub true)),.map (mEnc (fun s=>Value.string ⟨s.toArray⟩) (fun x=>cI x) o4c0p),.map (mEnc (fun n=>Value.int .i64 n) (fun x=>cI x) (aset o5c0p v1.account (((alook o5c0p v1.account).getD 0)+1))),.row 43 [.d (cI v1.at_),.d (cI v1.kind),.d (cI v1.account),.d (cI v1.sub),.d (cS v1.number),.d (cS v1.name),.d (cI v1.value)]],[]⟩] rfl ⟨.e (u_mapUpdateD (intKF underlying3) (l:=o2c0p) (val:=(fun x=>.agg (Sub.row x))) (k:=v1.sub) (a:=(⟨v1.sub,v1.account,v1.at_,v1.name,([]:List (List UInt8)),([]:List (List UInt8)),false,false⟩:Sub)) underlying112 rfl rfl rfl (fun _ _ _ h=>exKey h) rfl (.rfl' _)) rfl,OpQ.g (OpQ.le (q_buildP pl_38 hi38 hz38 rfl rfl) (EVle.d (.agg ⟨.rfl' _,.rfl' _,.rfl' _,.rfl' _,.nil 1,.nil 1,.rfl' _,.rfl' _,trivial⟩))),(show drawB _ _=true by kernel_rfl),.e (u_mapUpdateD (intKF underlying3) (l:=o5c0p) (val:=(fun x=>cI x)) (k:=v1.account) (a:=((alook o5c0p v1.account).getD 0)+1) underlying114 rfl rfl rfl (fun _ _ _ h=>exKey h) rfl (.rfl' _)) rfl,g_addI rfl rfl hk1,OpQ.g (q_lookupD (intKF underlying3) (l:=o5c0p) (val:=(fun x=>cI x)) (k:=v1.account) (a0:=0) underlying114 hi3 hz3 (show DLe (cI 0) (cI 0) from .rfl' _) rfl rfl rfl (fun _ _ _ h=>exKey h)),(show drawB _ _=true by kernel_rfl),.e (u_mapUpdateD (intKF underlying3) (l:=o3c0p) (val:=(fun x=>cB x)) (k:=v1.sub) (a:=true) underlying113 rfl rfl rfl (fun _ _ _ h=>exKey h) rfl (.rfl' _)) rfl,(show drawB _ _=true by kernel_rfl)⟩ ?_
     refine .fin0 func64 results64 ?_
     cases H
     exact ⟨[0,1,2,3,4,5],[],rfl,(okCons rfl (okCons okMap (okCons okMap (okCons okMap (okCons okMap (okCons okMap rfl)))))),(by first | rfl | (simp only [List.map_cons,List.map_nil,renMap,renArr,mergeSt]; rfl)),(by first | rfl | (simp only [List.map_cons,List.map_nil,renMap,renArr,mergeSt]; rfl)),(by first | rfl | (simp only [List.map_cons,List.map_nil,renMap,renArr,mergeSt]; rfl)),(by first | rfl | (simp only [List.map_cons,List.map_nil,renMap,renArr,mergeSt]; rfl)),(by first | rfl | (simp only [List.map_cons,List.map_nil,renMap,renArr,mergeSt]; rfl)),(by first | rfl | (simp only [List.map_cons,List.map_nil,renMap,renArr,mergeSt]; rfl)),EVle.tupL (ds:=[]) trivial⟩
    ·intro hj2
     refine .A 12 [.p 8,.b ((alook o3c0p v1.sub).getD false)] rfl ⟨OpQ.g (q_lookupD (intKF underlying3) (l:=o3c0p) (val:=(fun x=>cB x)) (k:=v1.sub) (a0:=false) underlying113 hi4 hz4 (show DLe (cB false) (cB false) from .rfl' _) rfl rfl rfl (fun _ _ _ h=>exKey h)),(show drawB _ _=true by kernel_rfl)⟩ ?_
     refine .ite H rfl (fun H=>?_) (fun H=>?_)
     ·obtain ⟨y2,hy2,H⟩:=bind_some' H
      refine .A 14 [.p 10,.d (slOf 1 rI y2)] rfl ⟨g_call (en 29 rfl) rfl rfl (c_f_customer_place_int (hy2)),(show drawB _ _=true by kernel_rfl)⟩ ?_
      exact .z (hj2 y2 H) rfl rfl
     ·refine .A 1 [] rfl trivial ?_
      exact .z (hj2 o0c6p H) rfl rfl
   ·refine .A 5 [] rfl trivial ?_
    refine .ite H rfl (fun H=>?_) (fun H=>?_)
    ·refine .A 1 [] rfl trivial ?_
     refine .orders1 8 7 [⟨[.row 116 [.mp 1,.mp 2,.mp 3,.mp 4,.mp 5,.d (slOf 1 rI o0c5p),.d (slOf 1 rI o0c6p)],.map (mEnc (fun n=>Value.int .i64 n) (fun x=>.agg (Account.row x)) o1c0p),.map (mEnc (fun n=>Value.int .i64 n) (fun x=>.agg (Sub.row x)) o2c0p),.map (mEnc (fun n=>Value.int .i64 n) (fun x=>cB x) o3c0p),.map (mEnc (fun s=>Value.string ⟨s.toArray⟩) (fun x=>cI x) o4c0p),.map (mEnc (fun n=>Value.int .i64 n) (fun x=>cI x) o5c0p),.row 43 [.d (cI v1.at_),.d (cI v1.kind),.d (cI v1.account),.d (cI v1.sub),.d (cS v1.number),.d (cS v1.name),.d (cI v1.value)]],[]⟩,⟨[.row 116 [.mp 1,.mp 2,.mp 3,.mp 4,.mp 5,.d (slOf 1 rI o0c5p),.d (slOf 1 rI o0c6p)],.map (mEnc (fun n=>Value.int .i64 n) (fun x=>.agg (Account.row x)) o1c0p),.map (mEnc (fun n=>Value.int .i64 n) (fun x=>.agg (Sub.row x)) o2c0p),.map (mEnc (fun n=>Value.int .i64 n) (fun x=>cB x) o3c0p),.map (mEnc (fun s=>Value.string ⟨s.toArray⟩) (fun x=>cI x) o4c0p),.map (mEnc (fun n=>Value.int .i64 n) (fun x=>cI x) o5c0p),.row 43 [.d (cI v1.at_),.d (cI v1.kind),.d (cI v1.account),.d (cI v1.sub),.d (cS v1.number),.d (cS v1.name),.d (cI v1.value)],.row 38 [.d (cI 0),.d (cI 0),.d (cI 0),.d (cS ([]:List UInt8)),.d (nilD),.d (nilD),.d (cB false),.d (cB false)]],[]⟩] hMix (by kernel_rfl) (by decide) rfl ?_
     show XOps _ _ _ _ _ _ _ _ _ _ (_ :: _) _ _
     refine .g (x:=.ref 0 0) 0 1 ⟨OpQ.g (q_move rfl),OpQ.g (q_move rfl),trivial⟩ rfl (by kernel_rfl) rfl ?_
     refine .g (x:=.ref 0 0) 0 1 ⟨OpQ.g (q_nilRef rfl),OpQ.g (q_nilRef rfl),trivial⟩ rfl (by kernel_rfl) rfl ?_
     refine .g (x:=.ref 0 1) 0 1 ⟨OpQ.g (q_fieldRef fo_116_1 rfl),OpQ.g (q_fieldRef fo_116_1 rfl),trivial⟩ rfl (by kernel_rfl) rfl ?_
     refine .g (x:=.mp 2) 0 1 ⟨OpQ.g (q_loadO one_112 rfl rfl rfl),OpQ.g (q_loadO one_112 rfl rfl rfl),trivial⟩ rfl (by kernel_rfl) rfl ?_
     refine .g (x:=.ref 6 3) 0 1 ⟨OpQ.g (q_fieldRef fo_43_3 rfl),OpQ.g (q_fieldRef fo_43_3 rfl),trivial⟩ rfl (by kernel_rfl) rfl ?_
     refine .g (x:=.d (cI v1.sub)) 0 1 ⟨OpQ.g (q_loadO one_3 rfl rfl rfl),OpQ.g (q_loadO one_3 rfl rfl rfl),trivial⟩ rfl (by kernel_rfl) rfl ?_
     refine .g (x:=.d (.agg (Sub.row ((alook o2c0p v1.sub).getD (⟨0,0,0,([]:List UInt8),([]:List (List UInt8)),([]:List (List UInt8)),false,false⟩:Sub))))) 0 1 ⟨OpQ.g (q_lookupD (intKF underlying3) (l:=o2c0p) (val:=(fun x=>.agg (Sub.row x))) (k:=v1.sub) (a0:=(⟨0,0,0,([]:List UInt8),([]:List (List UInt8)),([]:List (List UInt8)),false,false⟩:Sub)) underlying112 hi38 hz38 (show DLe (.agg [cI 0,cI 0,cI 0,cS ([]:List UInt8),nilD,nilD,cB false,cB false]) (.agg (Sub.row (⟨0,0,0,([]:List UInt8),([]:List (List UInt8)),([]:List (List UInt8)),false,false⟩:Sub))) from .agg ⟨.rfl' _,.rfl' _,.rfl' _,.rfl' _,.nil 1,.nil 1,.rfl' _,.rfl' _,trivial⟩) rfl rfl rfl (fun _ _ _ h=>exKey h)),OpQ.g (q_lookupD (intKF underlying3) (l:=o2c0p) (val:=(fun x=>.agg (Sub.row x))) (k:=v1.sub) (a0:=(⟨0,0,0,([]:List UInt8),([]:List (List UInt8)),([]:List (List UInt8)),false,false⟩:Sub)) underlying112 hi38 hz38 (show DLe (.agg [cI 0,cI 0,cI 0,cS ([]:List UInt8),nilD,nilD,cB false,cB false]) (.agg (Sub.row (⟨0,0,0,([]:List UInt8),([]:List (List UInt8)),([]:List (List UInt8)),false,false⟩:Sub))) from .agg ⟨.rfl' _,.rfl' _,.rfl' _,.rfl' _,.nil 1,.nil 1,.rfl' _,.rfl' _,trivial⟩) rfl rfl rfl (fun _ _ _ h=>exKey h)),trivial⟩ rfl (by kernel_rfl) rfl ?_
     refine .v (x:=.ref 7 0) 0 (v_alloc zr_38 rfl) rfl rfl rfl rfl ?_
     refine .nil rfl ?_
     show AOps _ _ _ _ _ _ (_ :: _) _ _ _
     refine .A 10 [.i ((((alook o2c0p v1.sub).getD (⟨0,0,0,([]:List UInt8),([]:List (List UInt8)),([]:List (List UInt8)),false,false⟩:Sub)).numbers).length:Int)] rfl (s36.n rfl rfl) ?_
     refine .blockJoin2 (ι:=(List ((List UInt8)×Int))) (fun o4c0j3=>[(0,.ref 0 0),(3,.ref 6 0),(7,.ref 7 0)]) (fun o4c0j3=>⟨[.row 116 [.mp 1,.mp 2,.mp 3,.mp 4,.mp 5,.d (slOf 1 rI o0c5p),.d (slOf 1 rI o0c6p)],.map (mEnc (fun n=>Value.int .i64 n) (fun x=>.agg (Account.row x)) o1c0p),.map (mEnc (fun n=>Value.int .i64 n) (fun x=>.agg (Sub.row x)) o2c0p),.map (mEnc (fun n=>Value.int .i64 n) (fun x=>cB x) o3c0p),.map (mEnc (fun s=>Value.string ⟨s.toArray⟩) (fun x=>cI x) o4c0j3),.map (mEnc (fun n=>Value.int .i64 n) (fun x=>cI x) o5c0p),.row 43 [.d (cI v1.at_),.d (cI v1.kind),.d (cI v1.account),.d (cI v1.sub),.d (cS v1.number),.d (cS v1.name),.d (cI v1.value)],.row 38 [.d (cI (((alook o2c0p v1.sub).getD (⟨0,0,0,([]:List UInt8),([]:List (List UInt8)),([]:List (List UInt8)),false,false⟩:Sub)).id)),.d (cI (((alook o2c0p v1.sub).getD (⟨0,0,0,([]:List UInt8),([]:List (List UInt8)),([]:List (List UInt8)),false,false⟩:Sub)).account)),.d (cI (((alook o2c0p v1.sub).getD (⟨0,0,0,([]:List UInt8),([]:List (List UInt8)),([]:List (List UInt8)),false,false⟩:Sub)).since)),.d (cS (((alook o2c0p v1.sub).getD (⟨0,0,0,([]:List UInt8),([]:List (List UInt8)),([]:List (List UInt8)),false,false⟩:Sub)).plan)),.d (slOf 1 rS (((alook o2c0p v1.sub).getD (⟨0,0,0,([]:List UInt8),([]:List (List UInt8)),([]:List (List UInt8)),false,false⟩:Sub)).numbers)),.d (slOf 1 rS (((alook o2c0p v1.sub).getD (⟨0,0,0,([]:List UInt8),([]:List (List UInt8)),([]:List (List UInt8)),false,false⟩:Sub)).products)),.d (cB (((alook o2c0p v1.sub).getD (⟨0,0,0,([]:List UInt8),([]:List (List UInt8)),([]:List (List UInt8)),false,false⟩:Sub)).suspended)),.d (cB (((alook o2c0p v1.sub).getD (⟨0,0,0,([]:List UInt8),([]:List (List UInt8)),([]:List (List UInt8)),false,false⟩:Sub)).family))]],[]⟩) (fun s=>g_customer_world_apply_j3 v1 o0c5p o0c6p o1c0p o2c0p o3c0p o5c0p s=some r) ?_ ?_
     ·rintro o4c0j3 H
      replace H:g_customer_world_apply_j3 v1 o0c5p o0c6p o1c0p o2c0p o3c0p o5c0p o4c0j3=some r:=H
      unfold g_customer_world_apply_j3 at H
      obtain ⟨hk2,H⟩:=ck_some H
      refine .A 24 [.p 8,.i ((alook o5c0p (((alook o2c0p v1.sub).getD (⟨0,0,0,([]:List UInt8),([]:List (List UInt8)),([]:List (List UInt8)),false,false⟩:Sub)).account)).getD 0),.i (((alook o5c0p (((alook o2c0p v1.sub).getD (⟨0,0,0,([]:List UInt8),([]:List (List UInt8)),([]:List (List UInt8)),false,false⟩:Sub)).account)).getD 0) - 1),.u ⟨[.row 116 [.mp 1,.mp 2,.mp 3,.mp 4,.mp 5,.d (slOf 1 rI o0c5p),.d (slOf 1 rI o0c6p)],.map (mEnc (fun n=>Value.int .i64 n) (fun x=>.agg (Account.row x)) o1c0p),.map (mEnc (fun n=>Value.int .i64 n) (fun x=>.agg (Sub.row x)) o2c0p),.map (mEnc (fun n=>Value.int .i64 n) (fun x=>cB x) o3c0p),.map (mEnc (fun s=>Value.string ⟨s.toArray⟩) (fun x=>cI x) o4c0j3),.map (mEnc (fun n=>Value.int .i64 n) (fun x=>cI x) (aset o5c0p (((alook o2c0p v1.sub).getD (⟨0,0,0,([]:List UInt8),([]:List (List UInt8)),([]:List (List UInt8)),false,false⟩:Sub)).account) (((alook o5c0p (((alook o2c0p v1.sub).getD (⟨0,0,0,([]:List UInt8),([]:List (List UInt8)),([]:List (List UInt8)),false,false⟩:Sub)).account)).getD 0) - 1))),.row 43 [.d (cI v1.at_),.d (cI v1.kind),.d (cI v1.account),.d (cI v1.sub),.d (cS v1.number),.d (cS v1.name),.d (cI v1.value)],.row 38 [.d (cI (((alook o2c0p v1.sub).getD (⟨0,0,0,([]:List UInt8),([]:List (List UInt8)),([]:List (List UInt8)),false,false⟩:Sub)).id)),.d (cI (((alook o2c0p v1.sub).getD (⟨0,0,0,([]:List UInt8),([]:List (List UInt8)),([]:List (List UInt8)),false,false⟩:Sub)).account)),.d (cI (((alook o2c0p v1.sub).getD (⟨0,0,0,([]:List UInt8),([]:List (List UInt8)),([]:List (List UInt8)),false,false⟩:Sub)).since)),.d (cS (((alook o2c0p v1.sub).getD (⟨0,0,0,([]:List UInt8),([]:List (List UInt8)),([]:List (List UInt8)),false,false⟩:Sub)).plan)),.d (slOf 1 rS (((alook o2c0p v1.sub).getD (⟨0,0,0,([]:List UInt8),([]:List (List UInt8)),([]:List (List UInt8)),false,false⟩:Sub)).numbers)),.d (slOf 1 rS (((alook o2c0p v1.sub).getD (⟨0,0,0,([]:List UInt8),([]:List (List UInt8)),([]:List (List UInt8)),false,false⟩:Sub)).products)),.d (cB (((alook o2c0p v1.sub).getD (⟨0,0,0,([]:List UInt8),([]:List (List UInt8)),([]:List (List UInt8)),false,false⟩:Sub)).suspended)),.d (cB (((alook o2c0p v1.sub).getD (⟨0,0,0,([]:List UInt8),([]:List (List UInt8)),([]:List (List UInt8)),false,false⟩:Sub)).family))]],[]⟩,.p 6,.v (.d (.tup [])) ⟨[.row 116 [.mp 1,.mp 2,.mp 3,.mp 4,.mp 5,.d (slOf 1 rI o0c5p),.d (slOf 1 rI o0c6p)],.map (mEnc (fun n=>Value.int .i64 n) (fun x=>.agg (Account.row x)) o1c0p),.map (mEnc (fun n=>Value.int .i64 n) (fun x=>.agg (Sub.row x)) (aerase o2c0p v1.sub)),.map (mEnc (fun n=>Value.int .i64 n) (fun x=>cB x) o3c0p),.map (mEnc (fun s=>Value.string ⟨s.toArray⟩) (fun x=>cI x) o4c0j3),.map (mEnc (fun n=>Value.int .i64 n) (fun x=>cI x) (aset o5c0p (((alook o2c0p v1.sub).getD (⟨0,0,0,([]:List UInt8),([]:List (List UInt8)),([]:List (List UInt8)),false,false⟩:Sub)).account) (((alook o5c0p (((alook o2c0p v1.sub).getD (⟨0,0,0,([]:List UInt8),([]:List (List UInt8)),([]:List (List UInt8)),false,false⟩:Sub)).account)).getD 0) - 1))),.row 43 [.d (cI v1.at_),.d (cI v1.kind),.d (cI v1.account),.d (cI v1.sub),.d (cS v1.number),.d (cS v1.name),.d (cI v1.value)],.row 38 [.d (cI (((alook o2c0p v1.sub).getD (⟨0,0,0,([]:List UInt8),([]:List (List UInt8)),([]:List (List UInt8)),false,false⟩:Sub)).id)),.d (cI (((alook o2c0p v1.sub).getD (⟨0,0,0,([]:List UInt8),([]:List (List UInt8)),([]:List (List UInt8)),false,false⟩:Sub)).account)),.d (cI (((alook o2c0p v1.sub).getD (⟨0,0,0,([]:List UInt8),([]:List (List UInt8)),([]:List (List UInt8)),false,false⟩:Sub)).since)),.d (cS (((alook o2c0p v1.sub).getD (⟨0,0,0,([]:List UInt8),([]:List (List UInt8)),([]:List (List UInt8)),false,false⟩:Sub)).plan)),.d (slOf 1 rS (((alook o2c0p v1.sub).getD (⟨0,0,0,([]:List UInt8),([]:List (List UInt8)),([]:List (List UInt8)),false,false⟩:Sub)).numbers)),.d (slOf 1 rS (((alook o2c0p v1.sub).getD (⟨0,0,0,([]:List UInt8),([]:List (List UInt8)),([]:List (List UInt8)),false,false⟩:Sub)).products)),.d (cB (((alook o2c0p v1.sub).getD (⟨0,0,0,([]:List UInt8),([]:List (List UInt8)),([]:List (List UInt8)),false,false⟩:Sub)).suspended)),.d (cB (((alook o2c0p v1.sub).getD (⟨0,0,0,([]:List UInt8),([]:List (List UInt8)),([]:List (List UInt8)),false,false⟩:Sub)).family))]],[]⟩] rfl ⟨.e (v_deleteD (intKF underlying3) (l:=o2c0p) (val:=(fun x=>.agg (Sub.row x))) (k:=v1.sub) underlying112 rfl rfl rfl (fun _ _ _ h=>exKey h)) rfl,(show drawB _ _=true by kernel_rfl),.e (u_mapUpdateD (intKF underlying3) (l:=o5c0p) (val:=(fun x=>cI x)) (k:=((alook o2c0p v1.sub).getD (⟨0,0,0,([]:List UInt8),([]:List (List UInt8)),([]:List (List UInt8)),false,false⟩:Sub)).account) (a:=((alook o5c0p (((alook o2c0p v1.sub).getD (⟨0,0,0,([]:List UInt8),([]:List (List UInt8)),([]:List (List UInt8)),false,false⟩:Sub)).account)).getD 0) - 1) underlying114 rfl rfl rfl (fun _ _ _ h=>exKey h) rfl (.rfl' _)) rfl,g_subI rfl rfl hk2,OpQ.g (q_lookupD (intKF underlying3) (l:=o5c0p) (val:=(fun x=>cI x)) (k:=((alook o2c0p v1.sub).getD (⟨0,0,0,([]:List UInt8),([]:List (List UInt8)),([]:List (List UInt8)),false,false⟩:Sub)).account) (a0:=0) underlying114 hi3 hz3 (show DLe (cI 0) (cI 0) from .rfl' _) rfl rfl rfl (fun _ _ _ h=>exKey h)),(show drawB _ _=true by kernel_rfl)⟩ ?_
      refine .fin0 func64 results64 ?_
      cases H
      exact ⟨[0,1,2,3,4,5],[],rfl,(okCons rfl (okCons okMap (okCons okMap (okCons okMap (okCons okMap (okCons okMap rfl)))))),(by first | rfl | (simp only [List.map_cons,List.map_nil,renMap,renArr,mergeSt]; rfl)),(by first | rfl | (simp only [List.map_cons,List.map_nil,renMap,renArr,mergeSt]; rfl)),(by first | rfl | (simp only [List.map_cons,List.map_nil,renMap,renArr,mergeSt]; rfl)),(by first | rfl | (simp only [List.map_cons,List.map_nil,renMap,renArr,mergeSt]; rfl)),(by first | rfl | (simp only [List.map_cons,List.map_nil,renMap,renArr,mergeSt]; rfl)),(by first | rfl | (simp only [List.map_cons,List.map_nil,renMap,renArr,mergeSt]; rfl)),EVle.tupL (ds:=[]) trivial⟩
     ·intro hj3 hj3x
      obtain ⟨n1,H⟩:=loop_some H
      refine .loop (ι:=Nat×(Int×(List ((List UInt8)×Int)))) (fun ⟨_,v153l1,o4c0l1⟩=>[(0,.ref 0 0),(3,.ref 6 0),(7,.ref 7 0),(151,.d (slOf 1 rS (((alook o2c0p v1.sub).getD (⟨0,0,0,([]:List UInt8),([]:List (List UInt8)),([]:List (List UInt8)),false,false⟩:Sub)).numbers))),(152,.d (cI ((((alook o2c0p v1.sub).getD (⟨0,0,0,([]:List UInt8),([]:List (List UInt8)),([]:List (List UInt8)),false,false⟩:Sub)).numbers).length:Int))),(153,.d (cI v153l1))]) (fun ⟨_,v153l1,o4c0l1⟩=>⟨[.row 116 [.mp 1,.mp 2,.mp 3,.mp 4,.mp 5,.d (slOf 1 rI o0c5p),.d (slOf 1 rI o0c6p)],.map (mEnc (fun n=>Value.int .i64 n) (fun x=>.agg (Account.row x)) o1c0p),.map (mEnc (fun n=>Value.int .i64 n) (fun x=>.agg (Sub.row x)) o2c0p),.map (mEnc (fun n=>Value.int .i64 n) (fun x=>cB x) o3c0p),.map (mEnc (fun s=>Value.string ⟨s.toArray⟩) (fun x=>cI x) o4c0l1),.map (mEnc (fun n=>Value.int .i64 n) (fun x=>cI x) o5c0p),.row 43 [.d (cI v1.at_),.d (cI v1.kind),.d (cI v1.account),.d (cI v1.sub),.d (cS v1.number),.d (cS v1.name),.d (cI v1.value)],.row 38 [.d (cI (((alook o2c0p v1.sub).getD (⟨0,0,0,([]:List UInt8),([]:List (List UInt8)),([]:List (List UInt8)),false,false⟩:Sub)).id)),.d (cI (((alook o2c0p v1.sub).getD (⟨0,0,0,([]:List UInt8),([]:List (List UInt8)),([]:List (List UInt8)),false,false⟩:Sub)).account)),.d (cI (((alook o2c0p v1.sub).getD (⟨0,0,0,([]:List UInt8),([]:List (List UInt8)),([]:List (List UInt8)),false,false⟩:Sub)).since)),.d (cS (((alook o2c0p v1.sub).getD (⟨0,0,0,([]:List UInt8),([]:List (List UInt8)),([]:List (List UInt8)),false,false⟩:Sub)).plan)),.d (slOf 1 rS (((alook o2c0p v1.sub).getD (⟨0,0,0,([]:List UInt8),([]:List (List UInt8)),([]:List (List UInt8)),false,false⟩:Sub)).numbers)),.d (slOf 1 rS (((alook o2c0p v1.sub).getD (⟨0,0,0,([]:List UInt8),([]:List (List UInt8)),([]:List (List UInt8)),false,false⟩:Sub)).products)),.d (cB (((alook o2c0p v1.sub).getD (⟨0,0,0,([]:List UInt8),([]:List (List UInt8)),([]:List (List UInt8)),false,false⟩:Sub)).suspended)),.d (cB (((alook o2c0p v1.sub).getD (⟨0,0,0,([]:List UInt8),([]:List (List UInt8)),([]:List (List UInt8)),false,false⟩:Sub)).family))]],[]⟩) (fun p=>iter (fun s=>g_customer_world_apply_l1 v1 o0c5p o0c6p o1c0p o2c0p o3c0p o5c0p s.1 s.2) p.1 p.2=some r) (·.1) (n1,(0,o4c0p)) H (.cons rfl (.rfl' _) (.cons rfl (.rfl' _) (.cons rfl (.rfl' _) (.cons rfl (.rfl' _) (.cons rfl (.rfl' _) (.cons rfl (.rfl' _) (.nil))))))) rfl ?_
      rintro ⟨m1,v153l1,o4c0l1⟩ HI ih1
      obtain ⟨n1,q1,hm1,H,HK1⟩:=iter_succ HI
      clear HI
      replace H:g_customer_world_apply_l1 v1 o0c5p o0c6p o1c0p o2c0p o3c0p o5c0p v153l1 o4c0l1=some q1:=H
      unfold g_customer_world_apply_l1 at H
      refine .A 5 [] rfl trivial ?_
      refine .ite H rfl (fun H=>?_) (fun H=>?_)
      ·obtain ⟨hk3,H⟩:=ck_some H
       obtain ⟨hk4,H⟩:=ck_some H
       refine .A 22 [.d (.ro (rS (nth (((alook o2c0p v1.sub).getD (⟨0,0,0,([]:List UInt8),([]:List (List UInt8)),([]:List (List UInt8)),false,false⟩:Sub)).numbers) v153l1.toNat))),.v (.d (.tup [])) ⟨[.row 116 [.mp 1,.mp 2,.mp 3,.mp 4,.mp 5,.d (slOf 1 rI o0c5p),.d (slOf 1 rI o0c6p)],.map (mEnc (fun n=>Value.int .i64 n) (fun x=>.agg (Account.row x)) o1c0p),.map (mEnc (fun n=>Value.int .i64 n) (fun x=>.agg (Sub.row x)) o2c0p),.map (mEnc (fun n=>Value.int .i64 n) (fun x=>cB x) o3c0p),.map (mEnc (fun s=>Value.string ⟨s.toArray⟩) (fun x=>cI x) (aerase o4c0l1 (nth (((alook o2c0p v1.sub).getD (⟨0,0,0,([]:List UInt8),([]:List (List UInt8)),([]:List (List UInt8)),false,false⟩:Sub)).numbers) v153l1.toNat))),.map (mEnc (fun n=>Value.int .i64 n) (fun x=>cI x) o5c0p),.row 43 [.d (cI v1.at_),.d (cI v1.kind),.d (cI v1.account),.d (cI v1.sub),.d (cS v1.number),.d (cS v1.name),.d (cI v1.value)],.row 38 [.d (cI (((alook o2c0p v1.sub).getD (⟨0,0,0,([]:List UInt8),([]:List (List UInt8)),([]:List (List UInt8)),false,false⟩:Sub)).id)),.d (cI (((alook o2c0p v1.sub).getD (⟨0,0,0,([]:List UInt8),([]:List (List UInt8)),([]:List (List UInt8)),false,false⟩:Sub)).account)),.d (cI (((alook o2c0p v1.sub).getD (⟨0,0,0,([]:List UInt8),([]:List (List UInt8)),([]:List (List UInt8)),false,false⟩:Sub)).since)),.d (cS (((alook o2c0p v1.sub).getD (⟨0,0,0,([]:List UInt8),([]:List (List UInt8)),([]:List (List UInt8)),false,false⟩:Sub)).plan)),.d (slOf 1 rS (((alook o2c0p v1.sub).getD (⟨0,0,0,([]:List UInt8),([]:List (List UInt8)),([]:List (List UInt8)),false,false⟩:Sub)).numbers)),.d (slOf 1 rS (((alook o2c0p v1.sub).getD (⟨0,0,0,([]:List UInt8),([]:List (List UInt8)),([]:List (List UInt8)),false,false⟩:Sub)).products)),.d (cB (((alook o2c0p v1.sub).getD (⟨0,0,0,([]:List UInt8),([]:List (List UInt8)),([]:List (List UInt8)),false,false⟩:Sub)).suspended)),.d (cB (((alook o2c0p v1.sub).getD (⟨0,0,0,([]:List UInt8),([]:List (List UInt8)),([]:List (List UInt8)),false,false⟩:Sub)).family))]],[]⟩,.i (v153l1+1)] rfl ⟨g_addI rfl rfl hk4,.e (v_deleteD (strKF underlying9) (l:=o4c0l1) (val:=(fun x=>cI x)) (k:=nth (((alook o2c0p v1.sub).getD (⟨0,0,0,([]:List UInt8),([]:List (List UInt8)),([]:List (List UInt8)),false,false⟩:Sub)).numbers) v153l1.toNat) underlying85 rfl rfl rfl (fun _ _ _ h=>exKey h)) rfl,s36.ix rfl rfl rfl hk3⟩ ?_
       cases H
       exact .z (ih1 (n1,(v153l1+1,aerase o4c0l1 (nth (((alook o2c0p v1.sub).getD (⟨0,0,0,([]:List UInt8),([]:List (List UInt8)),([]:List (List UInt8)),false,false⟩:Sub)).numbers) v153l1.toNat))) HK1 hm1) rfl rfl
      ·refine .A 1 [] rfl trivial ?_
       obtain ⟨q0,H9,hq0⟩:=map_some' H; clear H; cases hq0
       cases HK1
       have H:=H9
       exact .z (hj3x o4c0l1 H) rfl rfl
    ·refine .seqJoin (ι:=Bool) (fun v177j4=>[(0,.ref 0 0),(3,.ref 6 0),(177,.d (cB v177j4))]) (fun v177j4=>⟨[.row 116 [.mp 1,.mp 2,.mp 3,.mp 4,.mp 5,.d (slOf 1 rI o0c5p),.d (slOf 1 rI o0c6p)],.map (mEnc (fun n=>Value.int .i64 n) (fun x=>.agg (Account.row x)) o1c0p),.map (mEnc (fun n=>Value.int .i64 n) (fun x=>.agg (Sub.row x)) o2c0p),.map (mEnc (fun n=>Value.int .i64 n) (fun x=>cB x) o3c0p),.map (mEnc (fun s=>Value.string ⟨s.toArray⟩) (fun x=>cI x) o4c0p),.map (mEnc (fun n=>Value.int .i64 n) (fun x=>cI x) o5c0p),.row 43 [.d (cI v1.at_),.d (cI v1.kind),.d (cI v1.account),.d (cI v1.sub),.d (cS v1.number),.d (cS v1.name),.d (cI v1.value)]],[]⟩) (fun s=>g_customer_world_apply_j4 v1 o0c5p o0c6p o1c0p o2c0p o3c0p o4c0p o5c0p s=some r) ?_ ?_
     ·rintro v177j4 H
      replace H:g_customer_world_apply_j4 v1 o0c5p o0c6p o1c0p o2c0p o3c0p o4c0p o5c0p v177j4=some r:=H
      unfold g_customer_world_apply_j4 at H
      refine .ite H rfl (fun H=>?_) (fun H=>?_)
      ·refine .A 2 [] rfl trivial ?_
       refine .fin0 func64 results64 ?_
       cases H
       exact ⟨[0,1,2,3,4,5],[],rfl,(okCons rfl (okCons okMap (okCons okMap (okCons okMap (okCons okMap (okCons okMap rfl)))))),(by first | rfl | (simp only [List.map_cons,List.map_nil,renMap,renArr,mergeSt]; rfl)),(by first | rfl | (simp only [List.map_cons,List.map_nil,renMap,renArr,mergeSt]; rfl)),(by first | rfl | (simp only [List.map_cons,List.map_nil,renMap,renArr,mergeSt]; rfl)),(by first | rfl | (simp only [List.map_cons,List.map_nil,renMap,renArr,mergeSt]; rfl)),(by first | rfl | (simp only [List.map_cons,List.map_nil,renMap,renArr,mergeSt]; rfl)),(by first | rfl | (simp only [List.map_cons,List.map_nil,renMap,renArr,mergeSt]; rfl)),EVle.tupL (ds:=[]) trivial⟩
      ·refine .A 1 [] rfl trivial ?_
       refine .orders2 12 10 11 [⟨[.row 116 [.mp 1,.mp 2,.mp 3,.mp 4,.mp 5,.d (slOf 1 rI o0c5p),.d (slOf 1 rI o0c6p)],.map (mEnc (fun n=>Value.int .i64 n) (fun x=>.agg (Account.row x)) o1c0p),.map (mEnc (fun n=>Value.int .i64 n) (fun x=>.agg (Sub.row x)) o2c0p),.map (mEnc (fun n=>Value.int .i64 n) (fun x=>cB x) o3c0p),.map (mEnc (fun s=>Value.string ⟨s.toArray⟩) (fun x=>cI x) o4c0p),.map (mEnc (fun n=>Value.int .i64 n) (fun x=>cI x) o5c0p),.row 43 [.d (cI v1.at_),.d (cI v1.kind),.d (cI v1.account),.d (cI v1.sub),.d (cS v1.number),.d (cS v1.name),.d (cI v1.value)]],[]⟩,⟨[.row 116 [.mp 1,.mp 2,.mp 3,.mp 4,.mp 5,.d (slOf 1 rI o0c5p),.d (slOf 1 rI o0c6p)],.map (mEnc (fun n=>Value.int .i64 n) (fun x=>.agg (Account.row x)) o1c0p),.map (mEnc (fun n=>Value.int .i64 n) (fun x=>.agg (Sub.row x)) o2c0p),.map (mEnc (fun n=>Value.int .i64 n) (fun x=>cB x) o3c0p),.map (mEnc (fun s=>Value.string ⟨s.toArray⟩) (fun x=>cI x) o4c0p),.map (mEnc (fun n=>Value.int .i64 n) (fun x=>cI x) o5c0p),.row 43 [.d (cI v1.at_),.d (cI v1.kind),.d (cI v1.account),.d (cI v1.sub),.d (cS v1.number),.d (cS v1.name),.d (cI v1.value)],.row 38 [.d (cI 0),.d (cI 0),.d (cI 0),.d (cS ([]:List UInt8)),.d (nilD),.d (nilD),.d (cB false),.d (cB false)]],[]⟩,⟨[.row 116 [.mp 1,.mp 2,.mp 3,.mp 4,.mp 5,.d (slOf 1 rI o0c5p),.d (slOf 1 rI o0c6p)],.map (mEnc (fun n=>Value.int .i64 n) (fun x=>.agg (Account.row x)) o1c0p),.map (mEnc (fun n=>Value.int .i64 n) (fun x=>.agg (Sub.row x)) o2c0p),.map (mEnc (fun n=>Value.int .i64 n) (fun x=>cB x) o3c0p),.map (mEnc (fun s=>Value.string ⟨s.toArray⟩) (fun x=>cI x) o4c0p),.map (mEnc (fun n=>Value.int .i64 n) (fun x=>cI x) o5c0p),.row 43 [.d (cI v1.at_),.d (cI v1.kind),.d (cI v1.account),.d (cI v1.sub),.d (cS v1.number),.d (cS v1.name),.d (cI v1.value)],.row 38 [.d (cI (((alook o2c0p v1.sub).getD (⟨0,0,0,([]:List UInt8),([]:List (List UInt8)),([]:List (List UInt8)),false,false⟩:Sub)).id)),.d (cI (((alook o2c0p v1.sub).getD (⟨0,0,0,([]:List UInt8),([]:List (List UInt8)),([]:List (List UInt8)),false,false⟩:Sub)).account)),.d (cI (((alook o2c0p v1.sub).getD (⟨0,0,0,([]:List UInt8),([]:List (List UInt8)),([]:List (List UInt8)),false,false⟩:Sub)).since)),.d (cS (((alook o2c0p v1.sub).getD (⟨0,0,0,([]:List UInt8),([]:List (List UInt8)),([]:List (List UInt8)),false,false⟩:Sub)).plan)),.d (slOf 1 rS (((alook o2c0p v1.sub).getD (⟨0,0,0,([]:List UInt8),([]:List (List UInt8)),([]:List (List UInt8)),false,false⟩:Sub)).numbers)),.d (slOf 1 rS (((alook o2c0p v1.sub).getD (⟨0,0,0,([]:List UInt8),([]:List (List UInt8)),([]:List (List UInt8)),false,false⟩:Sub)).products)),.d (cB (((alook o2c0p v1.sub).getD (⟨0,0,0,([]:List UInt8),([]:List (List UInt8)),([]:List (List UInt8)),false,false⟩:Sub)).suspended)),.d (cB (((alook o2c0p v1.sub).getD (⟨0,0,0,([]:List UInt8),([]:List (List UInt8)),([]:List (List UInt8)),false,false⟩:Sub)).family))]],[]⟩] hMix (by kernel_rfl) (by decide) (by decide) (by kernel_rfl) rfl ?_
       show XOps _ _ _ _ _ _ _ _ _ _ (_ :: _) _ _
       refine .g (x:=.ref 0 0) 0 1 ⟨OpQ.g (q_move rfl),OpQ.g (q_move rfl),trivial⟩ rfl (by kernel_rfl) rfl ?_
       refine .g (x:=.ref 0 0) 0 1 ⟨OpQ.g (q_nilRef rfl),OpQ.g (q_nilRef rfl),trivial⟩ rfl (by kernel_rfl) rfl ?_
       refine .g (x:=.ref 0 1) 0 1 ⟨OpQ.g (q_fieldRef fo_116_1 rfl),OpQ.g (q_fieldRef fo_116_1 rfl),trivial⟩ rfl (by kernel_rfl) rfl ?_
       refine .g (x:=.mp 2) 0 1 ⟨OpQ.g (q_loadO one_112 rfl rfl rfl),OpQ.g (q_loadO one_112 rfl rfl rfl),trivial⟩ rfl (by kernel_rfl) rfl ?_
       refine .g (x:=.ref 6 3) 0 1 ⟨OpQ.g (q_fieldRef fo_43_3 rfl),OpQ.g (q_fieldRef fo_43_3 rfl),trivial⟩ rfl (by kernel_rfl) rfl ?_
       refine .g (x:=.d (cI v1.sub)) 0 1 ⟨OpQ.g (q_loadO one_3 rfl rfl rfl),OpQ.g (q_loadO one_3 rfl rfl rfl),trivial⟩ rfl (by kernel_rfl) rfl ?_
       refine .g (x:=.d (.tup [.agg (Sub.row ((alook o2c0p v1.sub).getD (⟨0,0,0,([]:List UInt8),([]:List (List UInt8)),([]:List (List UInt8)),false,false⟩:Sub))),cB ((alook o2c0p v1.sub).isSome)])) 0 1 ⟨OpQ.g (q_lookupOkD (intKF underlying3) (l:=o2c0p) (val:=(fun x=>.agg (Sub.row x))) (k:=v1.sub) (a0:=(⟨0,0,0,([]:List UInt8),([]:List (List UInt8)),([]:List (List UInt8)),false,false⟩:Sub)) underlying112 hi38 hz38 (show DLe (.agg [cI 0,cI 0,cI 0,cS ([]:List UInt8),nilD,nilD,cB false,cB false]) (.agg (Sub.row (⟨0,0,0,([]:List UInt8),([]:List (List UInt8)),([]:List (List UInt8)),false,false⟩:Sub))) from .agg ⟨.rfl' _,.rfl' _,.rfl' _,.rfl' _,.nil 1,.nil 1,.rfl' _,.rfl' _,trivial⟩) rfl rfl rfl (fun _ _ _ h=>exKey h)),OpQ.g (q_lookupOkD (intKF underlying3) (l:=o2c0p) (val:=(fun x=>.agg (Sub.row x))) (k:=v1.sub) (a0:=(⟨0,0,0,([]:List UInt8),([]:List (List UInt8)),([]:List (List UInt8)),false,false⟩:Sub)) underlying112 hi38 hz38 (show DLe (.agg [cI 0,cI 0,cI 0,cS ([]:List UInt8),nilD,nilD,cB false,cB false]) (.agg (Sub.row (⟨0,0,0,([]:List UInt8),([]:List (List UInt8)),([]:List (List UInt8)),false,false⟩:Sub))) from .agg ⟨.rfl' _,.rfl' _,.rfl' _,.rfl' _,.nil 1,.nil 1,.rfl' _,.rfl' _,trivial⟩) rfl rfl rfl (fun _ _ _ h=>exKey h)),trivial⟩ rfl (by kernel_rfl) rfl ?_
       refine .g (x:=.d (.tup [.agg (Sub.row ((alook o2c0p v1.sub).getD (⟨0,0,0,([]:List UInt8),([]:List (List UInt8)),([]:List (List UInt8)),false,false⟩:Sub))),cB ((alook o2c0p v1.sub).isSome)])) 0 1 ⟨OpQ.g (q_move rfl),OpQ.g (q_move rfl),trivial⟩ rfl (by kernel_rfl) rfl ?_
       refine .g (x:=.d (.agg (Sub.row ((alook o2c0p v1.sub).getD (⟨0,0,0,([]:List UInt8),([]:List (List UInt8)),([]:List (List UInt8)),false,false⟩:Sub))))) 0 1 ⟨OpQ.g (q_extract rfl rfl),OpQ.g (q_extract rfl rfl),trivial⟩ rfl (by kernel_rfl) rfl ?_
       refine .g (x:=.d (cB ((alook o2c0p v1.sub).isSome))) 0 2 ⟨OpQ.g (q_extract rfl rfl),OpQ.g (q_extract rfl rfl),OpQ.g (q_extract rfl rfl),trivial⟩ rfl (by kernel_rfl) rfl ?_
       refine .v (x:=.ref 7 0) 0 (v_alloc zr_38 rfl) rfl rfl rfl rfl ?_
       refine .u 1 (u_store rfl rfl rfl rfl (Nat.le_of_ble_eq_true rfl) sz_38) rfl rfl rfl rfl ?_
       refine .nil rfl ?_
       show AOps _ _ _ _ _ _ (_ :: _) _ _ _
       refine .A 6 [] rfl trivial ?_
       refine .ite H rfl (fun H=>?_) (fun H=>?_)
       ·obtain ⟨y3,hy3,H⟩:=bind_some' H
        refine .orders1 10 9 [⟨[.row 116 [.mp 1,.mp 2,.mp 3,.mp 4,.mp 5,.d (slOf 1 rI o0c5p),.d (slOf 1 rI o0c6p)],.map (mEnc (fun n=>Value.int .i64 n) (fun x=>.agg (Account.row x)) o1c0p),.map (mEnc (fun n=>Value.int .i64 n) (fun x=>.agg (Sub.row x)) o2c0p),.map (mEnc (fun n=>Value.int .i64 n) (fun x=>cB x) o3c0p),.map (mEnc (fun s=>Value.string ⟨s.toArray⟩) (fun x=>cI x) o4c0p),.map (mEnc (fun n=>Value.int .i64 n) (fun x=>cI x) o5c0p),.row 43 [.d (cI v1.at_),.d (cI v1.kind),.d (cI v1.account),.d (cI v1.sub),.d (cS v1.number),.d (cS v1.name),.d (cI v1.value)],.row 38 [.d (cI (((alook o2c0p v1.sub).getD (⟨0,0,0,([]:List UInt8),([]:List (List UInt8)),([]:List (List UInt8)),false,false⟩:Sub)).id)),.d (cI (((alook o2c0p v1.sub).getD (⟨0,0,0,([]:List UInt8),([]:List (List UInt8)),([]:List (List UInt8)),false,false⟩:Sub)).account)),.d (cI (((alook o2c0p v1.sub).getD (⟨0,0,0,([]:List UInt8),([]:List (List UInt8)),([]:List (List UInt8)),false,false⟩:Sub)).since)),.d (cS (((alook o2c0p v1.sub).getD (⟨0,0,0,([]:List UInt8),([]:List (List UInt8)),([]:List (List UInt8)),false,false⟩:Sub)).plan)),.d (slOf 1 rS (((alook o2c0p v1.sub).getD (⟨0,0,0,([]:List UInt8),([]:List (List UInt8)),([]:List (List UInt8)),false,false⟩:Sub)).numbers)),.d (slOf 1 rS (((alook o2c0p v1.sub).getD (⟨0,0,0,([]:List UInt8),([]:List (List UInt8)),([]:List (List UInt8)),false,false⟩:Sub)).products)),.d (cB (((alook o2c0p v1.sub).getD (⟨0,0,0,([]:List UInt8),([]:List (List UInt8)),([]:List (List UInt8)),false,false⟩:Sub)).suspended)),.d (cB (((alook o2c0p v1.sub).getD (⟨0,0,0,([]:List UInt8),([]:List (List UInt8)),([]:List (List UInt8)),false,false⟩:Sub)).family))]],[]⟩,⟨[.row 116 [.mp 1,.mp 2,.mp 3,.mp 4,.mp 5,.d (slOf 1 rI o0c5p),.d (slOf 1 rI o0c6p)],.map (mEnc (fun n=>Value.int .i64 n) (fun x=>.agg (Account.row x)) o1c0p),.map (mEnc (fun n=>Value.int .i64 n) (fun x=>.agg (Sub.row x)) o2c0p),.map (mEnc (fun n=>Value.int .i64 n) (fun x=>cB x) o3c0p),.map (mEnc (fun s=>Value.string ⟨s.toArray⟩) (fun x=>cI x) y3.2),.map (mEnc (fun n=>Value.int .i64 n) (fun x=>cI x) o5c0p),.row 43 [.d (cI v1.at_),.d (cI v1.kind),.d (cI v1.account),.d (cI v1.sub),.d (cS v1.number),.d (cS v1.name),.d (cI v1.value)],.row 38 [.d (cI (((alook o2c0p v1.sub).getD (⟨0,0,0,([]:List UInt8),([]:List (List UInt8)),([]:List (List UInt8)),false,false⟩:Sub)).id)),.d (cI (((alook o2c0p v1.sub).getD (⟨0,0,0,([]:List UInt8),([]:List (List UInt8)),([]:List (List UInt8)),false,false⟩:Sub)).account)),.d (cI (((alook o2c0p v1.sub).getD (⟨0,0,0,([]:List UInt8),([]:List (List UInt8)),([]:List (List UInt8)),false,false⟩:Sub)).since)),.d (cS (((alook o2c0p v1.sub).getD (⟨0,0,0,([]:List UInt8),([]:List (List UInt8)),([]:List (List UInt8)),false,false⟩:Sub)).plan)),.d (slOf 1 rS (((alook o2c0p v1.sub).getD (⟨0,0,0,([]:List UInt8),([]:List (List UInt8)),([]:List (List UInt8)),false,false⟩:Sub)).numbers)),.d (slOf 1 rS (((alook o2c0p v1.sub).getD (⟨0,0,0,([]:List UInt8),([]:List (List UInt8)),([]:List (List UInt8)),false,false⟩:Sub)).products)),.d (cB (((alook o2c0p v1.sub).getD (⟨0,0,0,([]:List UInt8),([]:List (List UInt8)),([]:List (List UInt8)),false,false⟩:Sub)).suspended)),.d (cB (((alook o2c0p v1.sub).getD (⟨0,0,0,([]:List UInt8),([]:List (List UInt8)),([]:List (List UInt8)),false,false⟩:Sub)).family))]],[]⟩] hMix (by kernel_rfl) (by decide) rfl ?_
        show XOps _ _ _ _ _ _ _ _ _ _ (_ :: _) _ _
        refine .g (x:=.ref 0 0) 0 1 ⟨OpQ.g (q_move rfl),OpQ.g (q_move rfl),trivial⟩ rfl (by kernel_rfl) rfl ?_
        refine .g (x:=.ref 0 0) 0 1 ⟨OpQ.g (q_nilRef rfl),OpQ.g (q_nilRef rfl),trivial⟩ rfl (by kernel_rfl) rfl ?_
        refine .g (x:=.ref 0 1) 0 1 ⟨OpQ.g (q_fieldRef fo_116_1 rfl),OpQ.g (q_fieldRef fo_116_1 rfl),trivial⟩ rfl (by kernel_rfl) rfl ?_
        refine .g (x:=.mp 2) 0 1 ⟨OpQ.g (q_loadO one_112 rfl rfl rfl),OpQ.g (q_loadO one_112 rfl rfl rfl),trivial⟩ rfl (by kernel_rfl) rfl ?_
        refine .g (x:=.ref 6 3) 0 1 ⟨OpQ.g (q_fieldRef fo_43_3 rfl),OpQ.g (q_fieldRef fo_43_3 rfl),trivial⟩ rfl (by kernel_rfl) rfl ?_
        refine .g (x:=.d (cI v1.sub)) 0 1 ⟨OpQ.g (q_loadO one_3 rfl rfl rfl),OpQ.g (q_loadO one_3 rfl rfl rfl),trivial⟩ rfl (by kernel_rfl) rfl ?_
        refine .g (x:=.ref 0 0) 0 0 ⟨OpQ.g (q_move rfl),trivial⟩ rfl (by kernel_rfl) rfl ?_
        refine .g (x:=.d (.agg (Sub.row ((alook o2c0p v1.sub).getD (⟨0,0,0,([]:List UInt8),([]:List (List UInt8)),([]:List (List UInt8)),false,false⟩:Sub))))) 0 0 ⟨OpQ.g (q_loadOA one_38 sz_38 rfl rfl (Nat.le_of_ble_eq_true rfl) rfl),trivial⟩ rfl (by kernel_rfl) rfl ?_
        refine .g (x:=.d (.agg (Event.row v1))) 0 0 ⟨OpQ.g (q_loadOA one_43 sz_43 rfl rfl (Nat.le_of_ble_eq_true rfl) rfl),trivial⟩ rfl (by kernel_rfl) rfl ?_
        refine .c 0 (OpC.callF (en 30 rfl) [0,1,2,3,4,5] [] (x:=.d (.agg (Sub.row y3.1))) (st':=⟨[.row 116 [.mp 1,.mp 2,.mp 3,.mp 4,.mp 5,.d (slOf 1 rI o0c5p),.d (slOf 1 rI o0c6p)],.map (mEnc (fun n=>Value.int .i64 n) (fun x=>.agg (Account.row x)) o1c0p),.map (mEnc (fun n=>Value.int .i64 n) (fun x=>.agg (Sub.row x)) o2c0p),.map (mEnc (fun n=>Value.int .i64 n) (fun x=>cB x) o3c0p),.map (mEnc (fun s=>Value.string ⟨s.toArray⟩) (fun x=>cI x) y3.2),.map (mEnc (fun n=>Value.int .i64 n) (fun x=>cI x) o5c0p),.row 43 [.d (cI v1.at_),.d (cI v1.kind),.d (cI v1.account),.d (cI v1.sub),.d (cS v1.number),.d (cS v1.name),.d (cI v1.value)],.row 38 [.d (cI (((alook o2c0p v1.sub).getD (⟨0,0,0,([]:List UInt8),([]:List (List UInt8)),([]:List (List UInt8)),false,false⟩:Sub)).id)),.d (cI (((alook o2c0p v1.sub).getD (⟨0,0,0,([]:List UInt8),([]:List (List UInt8)),([]:List (List UInt8)),false,false⟩:Sub)).account)),.d (cI (((alook o2c0p v1.sub).getD (⟨0,0,0,([]:List UInt8),([]:List (List UInt8)),([]:List (List UInt8)),false,false⟩:Sub)).since)),.d (cS (((alook o2c0p v1.sub).getD (⟨0,0,0,([]:List UInt8),([]:List (List UInt8)),([]:List (List UInt8)),false,false⟩:Sub)).plan)),.d (slOf 1 rS (((alook o2c0p v1.sub).getD (⟨0,0,0,([]:List UInt8),([]:List (List UInt8)),([]:List (List UInt8)),false,false⟩:Sub)).numbers)),.d (slOf 1 rS (((alook o2c0p v1.sub).getD (⟨0,0,0,([]:List UInt8),([]:List (List UInt8)),([]:List (List UInt8)),false,false⟩:Sub)).products)),.d (cB (((alook o2c0p v1.sub).getD (⟨0,0,0,([]:List UInt8),([]:List (List UInt8)),([]:List (List UInt8)),false,false⟩:Sub)).suspended)),.d (cB (((alook o2c0p v1.sub).getD (⟨0,0,0,([]:List UInt8),([]:List (List UInt8)),([]:List (List UInt8)),false,false⟩:Sub)).family))]],[]⟩) rfl (c_g_customer_world_changed (hy3)) ⟨.rfl' _,.rfl' _,.rfl' _,trivial⟩ rfl (okCons rfl (okCons okMap (okCons okMap (okCons okMap (okCons okMap (okCons okMap rfl)))))) (by first | rfl | (simp only [List.map_cons,List.map_nil,renMap,renArr,mergeSt]; rfl)) rfl rfl (by first | rfl | (simp only [List.map_cons,List.map_nil,renMap,renArr,mergeSt]; rfl))) rfl rfl rfl rfl ?_
        refine .nil rfl ?_
        show AOps _ _ _ _ _ _ (_ :: _) _ _ _
        refine .A 3 [.u ⟨[.row 116 [.mp 1,.mp 2,.mp 3,.mp 4,.mp 5,.d (slOf 1 rI o0c5p),.d (slOf 1 rI o0c6p)],.map (mEnc (fun n=>Value.int .i64 n) (fun x=>.agg (Account.row x)) o1c0p),.map (mEnc (fun n=>Value.int .i64 n) (fun x=>.agg (Sub.row x)) (aset o2c0p v1.sub y3.1)),.map (mEnc (fun n=>Value.int .i64 n) (fun x=>cB x) o3c0p),.map (mEnc (fun s=>Value.string ⟨s.toArray⟩) (fun x=>cI x) y3.2),.map (mEnc (fun n=>Value.int .i64 n) (fun x=>cI x) o5c0p),.row 43 [.d (cI v1.at_),.d (cI v1.kind),.d (cI v1.account),.d (cI v1.sub),.d (cS v1.number),.d (cS v1.name),.d (cI v1.value)],.row 38 [.d (cI (((alook o2c0p v1.sub).getD (⟨0,0,0,([]:List UInt8),([]:List (List UInt8)),([]:List (List UInt8)),false,false⟩:Sub)).id)),.d (cI (((alook o2c0p v1.sub).getD (⟨0,0,0,([]:List UInt8),([]:List (List UInt8)),([]:List (List UInt8)),false,false⟩:Sub)).account)),.d (cI (((alook o2c0p v1.sub).getD (⟨0,0,0,([]:List UInt8),([]:List (List UInt8)),([]:List (List UInt8)),false,false⟩:Sub)).since)),.d (cS (((alook o2c0p v1.sub).getD (⟨0,0,0,([]:List UInt8),([]:List (List UInt8)),([]:List (List UInt8)),false,false⟩:Sub)).plan)),.d (slOf 1 rS (((alook o2c0p v1.sub).getD (⟨0,0,0,([]:List UInt8),([]:List (List UInt8)),([]:List (List UInt8)),false,false⟩:Sub)).numbers)),.d (slOf 1 rS (((alook o2c0p v1.sub).getD (⟨0,0,0,([]:List UInt8),([]:List (List UInt8)),([]:List (List UInt8)),false,false⟩:Sub)).products)),.d (cB (((alook o2c0p v1.sub).getD (⟨0,0,0,([]:List UInt8),([]:List (List UInt8)),([]:List (List UInt8)),false,false⟩:Sub)).suspended)),.d (cB (((alook o2c0p v1.sub).getD (⟨0,0,0,([]:List UInt8),([]:List (List UInt8)),([]:List (List UInt8)),false,false⟩:Sub)).family))]],[]⟩] rfl (.e (u_mapUpdateD (intKF underlying3) (l:=o2c0p) (val:=(fun x=>.agg (Sub.row x))) (k:=v1.sub) (a:=y3.1) underlying112 rfl rfl rfl (fun _ _ _ h=>exKey h) rfl (.rfl' _)) rfl) ?_
        refine .fin0 func64 results64 ?_
        cases H
        exact ⟨[0,1,2,3,4,5],[],rfl,(okCons rfl (okCons okMap (okCons okMap (okCons okMap (okCons okMap (okCons okMap rfl)))))),(by first | rfl | (simp only [List.map_cons,List.map_nil,renMap,renArr,mergeSt]; rfl)),(by first | rfl | (simp only [List.map_cons,List.map_nil,renMap,renArr,mergeSt]; rfl)),(by first | rfl | (simp only [List.map_cons,List.map_nil,renMap,renArr,mergeSt]; rfl)),(by first | rfl | (simp only [List.map_cons,List.map_nil,renMap,renArr,mergeSt]; rfl)),(by first | rfl | (simp only [List.map_cons,List.map_nil,renMap,renArr,mergeSt]; rfl)),(by first | rfl | (simp only [List.map_cons,List.map_nil,renMap,renArr,mergeSt]; rfl)),EVle.tupL (ds:=[]) trivial⟩
       ·refine .A 2 [] rfl trivial ?_
        refine .fin0 func64 results64 ?_
        cases H
        exact ⟨[0,1,2,3,4,5],[],rfl,(okCons rfl (okCons okMap (okCons okMap (okCons okMap (okCons okMap (okCons okMap rfl)))))),(by first | rfl | (simp only [List.map_cons,List.map_nil,renMap,renArr,mergeSt]; rfl)),(by first | rfl | (simp only [List.map_cons,List.map_nil,renMap,renArr,mergeSt]; rfl)),(by first | rfl | (simp only [List.map_cons,List.map_nil,renMap,renArr,mergeSt]; rfl)),(by first | rfl | (simp only [List.map_cons,List.map_nil,renMap,renArr,mergeSt]; rfl)),(by first | rfl | (simp only [List.map_cons,List.map_nil,renMap,renArr,mergeSt]; rfl)),(by first | rfl | (simp only [List.map_cons,List.map_nil,renMap,renArr,mergeSt]; rfl)),EVle.tupL (ds:=[]) trivial⟩
     ·intro hj4
      refine .A 5 [] rfl trivial ?_
      refine .ite H rfl (fun H=>?_) (fun H=>?_)
      ·refine .A 1 [] rfl trivial ?_
       exact .z (hj4 (v1.kind==14) H) rfl rfl
      ·refine .A 4 [] rfl trivial ?_
       exact .z (hj4 (v1.kind==15) H) rfl rfl
theorem c_f_customer_upto_1 {o8c0p:List Event} {o9c0p:Int} {o1c5p:List Int} {o1c6p:List Int} {o2c0p:List (Int×Account)} {o3c0p:List (Int×Sub)} {o4c0p:List (Int×Bool)} {o5c0p:List ((List UInt8)×Int)} {o6c0p:List (Int×Int)} {r:(List Int)×(List Int)×(List (Int×Account))×(List (Int×Sub))×(List (Int×Bool))×(List ((List UInt8)×Int))×(List (Int×Int))} (H:f_customer_upto_1 o8c0p o9c0p o1c5p o1c6p o2c0p o3c0p o4c0p o5c0p o6c0p=some r) {rec:Loop} (hp:rec.params=#[11]) {S:Go.Abs.Start} {l:Nat} (hS:S.st=⟨[.row 62 [.d (nilD),.d (nilD)],.row 116 [.mp 2,.mp 3,.mp 4,.mp 5,.mp 6,.d (slOf 1 rI o1c5p),.d (slOf 1 rI o1c6p)],.map (mEnc (fun n=>Value.int .i64 n) (fun x=>.agg (Account.row x)) o2c0p),.map (mEnc (fun n=>Value.int .i64 n) (fun x=>.agg (Sub.row x)) o3c0p),.map (mEnc (fun n=>Value.int .i64 n) (fun x=>cB x) o4c0p),.map (mEnc (fun s=>Value.string ⟨s.toArray⟩) (fun x=>cI x) o5c0p),.map (mEnc (fun n=>Value.int .i64 n) (fun x=>cI x) o6c0p),.row 102 [.ref 1 0],.row 22 [.d (slOf 7 Event.row o8c0p)],.row 3 [.d (cI o9c0p)],.raw (.deferred (some [])),.raw (.loop rec)],[]⟩) (hi:Inv S.g S.base S.w S.st) (hl:S.g.ob 11=l) {vs:Array Value} (ha:ArgsRep S.g S.w S.st [.d (.ex (.func (.yield l) #[] #[])),.ref 8 0,.ref 9 0] vs) (hround:∀ (S2:Go.Abs.Start) (o1c5p:List Int) (o1c6p:List Int) (o2c0p:List (Int×Account)) (o3c0p:List (Int×Sub)) (o4c0p:List (Int×Bool)) (o5c0p:List ((List UInt8)×Int)) (o6c0p:List (Int×Int)) (y:(List Int)×(List Int)×(List (Int×Account))×(List (Int×Sub))×(List (Int×Bool))×(List ((List UInt8)×Int))×(List (Int×Int))) (e:Event),f_customer_State_r e o1c5p o1c6p o2c0p o3c0p o4c0p o5c0p o6c0p=some y→SEvo S.g S.w S.st S2.g S2.w S2.st→S2.base=S.base→S2.st=⟨[.row 62 [.d (nilD),.d (nilD)],.row 116 [.mp 2,.mp 3,.mp 4,.mp 5,.mp 6,.d (slOf 1 rI o1c5p),.d (slOf 1 rI o1c6p)],.map (mEnc (fun n=>Value.int .i64 n) (fun x=>.agg (Account.row x)) o2c0p),.map (mEnc (fun n=>Value.int .i64 n) (fun x=>.agg (Sub.row x)) o3c0p),.map (mEnc (fun n=>Value.int .i64 n) (fun x=>cB x) o4c0p),.map (mEnc (fun s=>Value.string ⟨s.toArray⟩) (fun x=>cI x) o5c0p),.map (mEnc (fun n=>Value.int .i64 n) (fun x=>cI x) o6c0p),.row 102 [.ref 1 0],.row 22 [.d (slOf 7 Event.row o8c0p)],.row 3 [.d (cI o9c0p)],.raw (.deferred (some [])),.raw (.loop rec),.row 43 [.d (cI e.at_),.d (cI e.kind),.d (cI e.account),.d (cI e.sub),.d (cS e.number),.d (cS e.name),.d (cI e.value)]],[]⟩→Inv S2.g S2.base S2.w S2.st→∀ v,DRep S2.g.lim S2.w (.agg (Event.row e)) v→FWP prog ⟨rec.fn,[],some l⟩ (RPost S2 fun _ st2=>∃ r2,st2.objs[11]?=some (.raw (.loop r2))∧⟨[.row 62 [.d (nilD),.d (nilD)],.row 116 [.mp 2,.mp 3,.mp 4,.mp 5,.mp 6,.d (slOf 1 rI y.1),.d (slOf 1 rI y.2.1)],.map (mEnc (fun n=>Value.int .i64 n) (fun x=>.agg (Account.row x)) y.2.2.1),.map (mEnc (fun n=>Value.int .i64 n) (fun x=>.agg (Sub.row x)) y.2.2.2.1),.map (mEnc (fun n=>Value.int .i64 n) (fun x=>cB x) y.2.2.2.2.1),.map (mEnc (fun s=>Value.string ⟨s.toArray⟩) (fun x=>cI x) y.2.2.2.2.2.1),.map (mEnc (fun n=>Value.int .i64 n) (fun x=>cI x) y.2.2.2.2.2.2),.row 102 [.ref 1 0],.row 22 [.d (slOf 7 Event.row o8c0p)],.row 3 [.d (cI o9c0p)],.raw (.deferred (some [])),.raw (.loop rec),.row 43 [.d (cI e.at_),.d (cI e.kind),.d (cI e.account),.d (cI e.sub),.d (cS e.number),.d (cS e.name),.d (cI e.value)]],[]⟩=st2.set 11 (.raw (.loop { r2 with state:=.ready,pending:=none }))) [.code rec.assign,.beginRound,.code rec.body] (rec.tmps.setIfInBounds 11 v) S2.w) :
  Calls prog 70 vs S.w (RPost S fun _ st2=>st2=⟨[.row 62 [.d (nilD),.d (nilD)],.row 116 [.mp 2,.mp 3,.mp 4,.mp 5,.mp 6,.d (slOf 1 rI r.1),.d (slOf 1 rI r.2.1)],.map (mEnc (fun n=>Value.int .i64 n) (fun x=>.agg (Account.row x)) r.2.2.1),.map (mEnc (fun n=>Value.int .i64 n) (fun x=>.agg (Sub.row x)) r.2.2.2.1),.map (mEnc (fun n=>Value.int .i64 n) (fun x=>cB x) r.2.2.2.2.1),.map (mEnc (fun s=>Value.string ⟨s.toArray⟩) (fun x=>cI x) r.2.2.2.2.2.1),.map (mEnc (fun n=>Value.int .i64 n) (fun x=>cI x) r.2.2.2.2.2.2),.row 102 [.ref 1 0],.row 22 [.d (slOf 7 Event.row o8c0p)],.row 3 [.d (cI o9c0p)],.raw (.deferred (some [])),.raw (.loop rec)],[]⟩):=by
 refine Calls.enterS func70 rfl ntmps70 rfl hi ha ?_
 rw [hS]
 unfold f_customer_upto_1 at H
 refine .A 7 [.i (o8c0p.length:Int)] rfl (s22.n rfl rfl) ?_
 obtain ⟨n1,H⟩:=loop_some H
 refine .loop (ι:=Nat×(Int×List Int×List Int×(List (Int×Account))×(List (Int×Sub))×(List (Int×Bool))×(List ((List UInt8)×Int))×(List (Int×Int)))) (fun ⟨_,v8l1,o1c5l1,o1c6l1,o2c0l1,o3c0l1,o4c0l1,o5c0l1,o6c0l1⟩=>[(0,.d (.ex (.func (.yield l) #[] #[]))),(2,.ref 9 0),(6,.d (slOf 7 Event.row o8c0p)),(7,.d (cI (o8c0p.length:Int))),(8,.d (cI v8l1))]) (fun ⟨_,v8l1,o1c5l1,o1c6l1,o2c0l1,o3c0l1,o4c0l1,o5c0l1,o6c0l1⟩=>⟨[.row 62 [.d (nilD),.d (nilD)],.row 116 [.mp 2,.mp 3,.mp 4,.mp 5,.mp 6,.d (slOf 1 rI o1c5l1),.d (slOf 1 rI o1c6l1)],.map (mEnc (fun n=>Value.int .i64 n) (fun x=>.agg (Account.row x)) o2c0l1),.map (mEnc (fun n=>Value.int .i64 n) (fun x=>.agg (Sub.row x)) o3c0l1),.map (mEnc (fun n=>Value.int .i64 n) (fun x=>cB x) o4c0l1),.map (mEnc (fun s=>Value.string ⟨s.toArray⟩) (fun x=>cI x) o5c0l1),.map (mEnc (fun n=>Value.int .i64 n) (fun x=>cI x) o6c0l1),.row 102 [.ref 1 0],.row 22 [.d (slOf 7 Event.row o8c0p)],.row 3 [.d (cI o9c0p)],.raw (.deferred (some [])),.raw (.loop rec)],[]⟩) (fun p=>iter (fun s=>f_customer_upto_1_l1 o8c0p o9c0p s.1 s.2.1 s.2.2.1 s.2.2.2.1 s.2.2.2.2.1 s.2.2.2.2.2.1 s.2.2.2.2.2.2.1 s.2.2.2.2.2.2.2) p.1 p.2=some r) (·.1) (n1,(0,o1c5p,o1c6p,o2c0p,o3c0p,o4c0p,o5c0p,o6c0p)) H (.cons rfl (.rfl' _) (.cons rfl (.rfl' _) (.cons rfl (.rfl' _) (.cons rfl (.rfl' _) (.cons rfl (.rfl' _) (.nil)))))) rfl ?_
 rintro ⟨m1,v8l1,o1c5l1,o1c6l1,o2c0l1,o3c0l1,o4c0l1,o5c0l1,o6c0l1⟩ HI ih1
 obtain ⟨n1,q1,hm1,H,HK1⟩:=iter_succ HI
 clear HI
 replace H:f_customer_upto_1_l1 o8c0p o9c0p v8l1 o1c5l1 o1c6l1 o2c0l1 o3c0l1 o4c0l1 o5c0l1 o6c0l1=some q1:=H
 unfold f_customer_upto_1_l1 at H
 refine .A 5 [] rfl trivial ?_
 refine .ite H rfl (fun H=>?_) (fun H=>?_)
 ·obtain ⟨hk1,H⟩:=ck_some H
  refine .A 11 [.d (.ro (Event.row (nth o8c0p v8l1.toNat))),.r 12] rfl (s22.ix rfl rfl rfl hk1) ?_
  refine .split (decide (((nth o8c0p v8l1.toNat).at_)≤o9c0p)) (fun hsp1=>?_) (fun hsp1=>?_)
  ·replace H:=ifT hsp1 H
   obtain ⟨y1,hy1,H⟩:=bind_some' H
   refine .B 8 [] rfl trivial ?_
   refine .yieldG (b:=decide (((nth o8c0p v8l1.toNat).at_)≤o9c0p)) (st':=⟨[.row 62 [.d (nilD),.d (nilD)],.row 116 [.mp 2,.mp 3,.mp 4,.mp 5,.mp 6,.d (slOf 1 rI y1.1),.d (slOf 1 rI y1.2.1)],.map (mEnc (fun n=>Value.int .i64 n) (fun x=>.agg (Account.row x)) y1.2.2.1),.map (mEnc (fun n=>Value.int .i64 n) (fun x=>.agg (Sub.row x)) y1.2.2.2.1),.map (mEnc (fun n=>Value.int .i64 n) (fun x=>cB x) y1.2.2.2.2.1),.map (mEnc (fun s=>Value.string ⟨s.toArray⟩) (fun x=>cI x) y1.2.2.2.2.2.1),.map (mEnc (fun n=>Value.int .i64 n) (fun x=>cI x) y1.2.2.2.2.2.2),.row 102 [.ref 1 0],.row 22 [.d (slOf 7 Event.row o8c0p)],.row 3 [.d (cI o9c0p)],.raw (.deferred (some [])),.raw (.loop rec),.row 43 [.d (cI ((nth o8c0p v8l1.toNat).at_)),.d (cI ((nth o8c0p v8l1.toNat).kind)),.d (cI ((nth o8c0p v8l1.toNat).account)),.d (cI ((nth o8c0p v8l1.toNat).sub)),.d (cS ((nth o8c0p v8l1.toNat).number)),.d (cS ((nth o8c0p v8l1.toNat).name)),.d (cI ((nth o8c0p v8l1.toNat).value))]],[]⟩) rfl rfl rfl hsp1 rfl rfl rfl rfl (by rw [hS]; exact Nat.le_of_ble_eq_true rfl) hl hp (fun S2 a1 a2 a3 a4 v hv=>hround S2 _ _ _ _ _ _ _ _ _ hy1 a1 a2 a3 a4 v hv) ?_
   refine .A 3 [] rfl ⟨rfl,rfl⟩ ?_
   refine .cond rfl (fun hc=>absurd hc (by simp)) (fun hc=>?_)
   clear hc
   obtain ⟨hk2,H⟩:=ck_some H
   refine .A 6 [.i (v8l1+1)] rfl (g_addI rfl rfl hk2) ?_
   cases H
   exact .t 12 0 (ih1 (n1,(v8l1+1,y1.1,y1.2.1,y1.2.2.1,y1.2.2.2.1,y1.2.2.2.2.1,y1.2.2.2.2.2.1,y1.2.2.2.2.2.2)) HK1 hm1) rfl rfl rfl rfl (okBoth rfl (okCons rfl (okCons rfl (okCons okMap (okCons okMap (okCons okMap (okCons okMap (okCons okMap (okCons rfl (okCons rfl (okCons rfl (okCons rfl (okCons rfl rfl))))))))))))) hS rfl
  ·replace H:=ifF hsp1 H
   refine .B 8 [] rfl trivial ?_
   refine .guardG (b:=decide (((nth o8c0p v8l1.toNat).at_)≤o9c0p)) (x:=.d (cB true)) (env':=[(17,_),(18,_)]) rfl rfl rfl ⟨.inr (.inl rfl),⟨.inr (.inl rfl),trivial⟩⟩ rfl (fun hg=>absurd hg (by rw [hsp1]; decide)) ?_
   refine .A 3 [] rfl ⟨rfl,rfl⟩ ?_
   refine .cond rfl (fun hc=>absurd hc (by simp)) (fun hc=>?_)
   clear hc
   obtain ⟨hk3,H⟩:=ck_some H
   refine .A 6 [.i (v8l1+1)] rfl (g_addI rfl rfl hk3) ?_
   cases H
   exact .t 12 0 (ih1 (n1,(v8l1+1,o1c5l1,o1c6l1,o2c0l1,o3c0l1,o4c0l1,o5c0l1,o6c0l1)) HK1 hm1) rfl rfl rfl rfl (okBoth rfl (okCons rfl (okCons rfl (okCons okMap (okCons okMap (okCons okMap (okCons okMap (okCons okMap (okCons rfl (okCons rfl (okCons rfl (okCons rfl (okCons rfl rfl))))))))))))) hS rfl
 ·refine .A 1 [] rfl trivial ?_
  refine .fin0 func70 results70 ?_
  cases H
  cases HK1
  rfl
theorem c_g_customer_world_customers {o0c5p:List Int} {o0c6p:List Int} {o1c0p:List (Int×Account)} {o2c0p:List (Int×Sub)} {o3c0p:List (Int×Bool)} {o4c0p:List ((List UInt8)×Int)} {o5c0p:List (Int×Int)} {r:Customers} (H:g_customer_world_customers o0c5p o0c6p o1c0p o2c0p o3c0p o4c0p o5c0p=some r):ACallS prog 65 [.ref 0 0] ⟨[.row 116 [.mp 1,.mp 2,.mp 3,.mp 4,.mp 5,.d (slOf 1 rI o0c5p),.d (slOf 1 rI o0c6p)],.map (mEnc (fun n=>Value.int .i64 n) (fun x=>.agg (Account.row x)) o1c0p),.map (mEnc (fun n=>Value.int .i64 n) (fun x=>.agg (Sub.row x)) o2c0p),.map (mEnc (fun n=>Value.int .i64 n) (fun x=>cB x) o3c0p),.map (mEnc (fun s=>Value.string ⟨s.toArray⟩) (fun x=>cI x) o4c0p),.map (mEnc (fun n=>Value.int .i64 n) (fun x=>cI x) o5c0p)],[]⟩ (QE (.d (.agg (Customers.row r))) ⟨[.row 116 [.mp 1,.mp 2,.mp 3,.mp 4,.mp 5,.d (slOf 1 rI o0c5p),.d (slOf 1 rI o0c6p)],.map (mEnc (fun n=>Value.int .i64 n) (fun x=>.agg (Account.row x)) o1c0p),.map (mEnc (fun n=>Value.int .i64 n) (fun x=>.agg (Sub.row x)) o2c0p),.map (mEnc (fun n=>Value.int .i64 n) (fun x=>cB x) o3c0p),.map (mEnc (fun s=>Value.string ⟨s.toArray⟩) (fun x=>cI x) o4c0p),.map (mEnc (fun n=>Value.int .i64 n) (fun x=>cI x) o5c0p)],[]⟩):=by
 obtain ⟨i3,hi3,hz3,hs3,hb3⟩:=in_3
 obtain ⟨i38,hi38,hz38,hs38,hb38⟩:=in_38
 obtain ⟨i65,hi65,hz65,hs65,hb65⟩:=in_65
 obtain ⟨i77,hi77,hz77,hs77,hb77⟩:=in_77
 refine ACallS.keep ?_
 refine ACallS.enter func65 rfl ntmps65 rfl fun S hS=>?_
 unfold g_customer_world_customers at H
 refine .AH 23 [.r 6,.r 7,.v (.mp 8) ⟨[.row 116 [.mp 1,.mp 2,.mp 3,.mp 4,.mp 5,.d (slOf 1 rI o0c5p),.d (slOf 1 rI o0c6p)],.map (mEnc (fun n=>Value.int .i64 n) (fun x=>.agg (Account.row x)) o1c0p),.map (mEnc (fun n=>Value.int .i64 n) (fun x=>.agg (Sub.row x)) o2c0p),.map (mEnc (fun n=>Value.int .i64 n) (fun x=>cB x) o3c0p),.map (mEnc (fun s=>Value.string ⟨s.toArray⟩) (fun x=>cI x) o4c0p),.map (mEnc (fun n=>Value.int .i64 n) (fun x=>cI x) o5c0p),.row 62 [.d (nilD),.d (nilD)],.row 62 [.d (nilD),.d (nilD)],.map (mEnc (fun n=>Value.int .i64 n) (fun x=>slOf 1 rI x) ([]:List (Int×(List Int))))],[]⟩,.i (o0c6p.length:Int)] rfl ⟨s65.n rfl rfl,.e (v_makeMap) rfl⟩ ?_
 refine .tokCell (o:=7) (ci:=1) (e:=38) (sz:=8) rfl rfl ?_
 refine .blockJoin2 (ι:=List Sub×(List (Int×(List Int)))) (fun ⟨o7c1j1,o8c0j1⟩=>[(0,.ref 0 0),(2,.ref 6 0),(3,.ref 7 0),(4,.mp 8)]) (fun ⟨o7c1j1,o8c0j1⟩=>⟨[.row 116 [.mp 1,.mp 2,.mp 3,.mp 4,.mp 5,.d (slOf 1 rI o0c5p),.d (slOf 1 rI o0c6p)],.map (mEnc (fun n=>Value.int .i64 n) (fun x=>.agg (Account.row x)) o1c0p),.map (mEnc (fun n=>Value.int .i64 n) (fun x=>.agg (Sub.row x)) o2c0p),.map (mEnc (fun n=>Value.int .i64 n) (fun x=>cB x) o3c0p),.map (mEnc (fun s=>Value.string ⟨s.toArray⟩) (fun x=>cI x) o4c0p),.map (mEnc (fun n=>Value.int .i64 n) (fun x=>cI x) o5c0p),.row 62 [.d (nilD),.d (nilD)],.row 62 [.d (nilD),.tsl 8 (o7c1j1.map Sub.row) 0],.map (encE (fun n=>Value.int .i64 n) (gEnc 1 rI 1 o8c0j1))],⟨38,8,o7c1j1.length,none⟩ :: gTails 3 1 o8c0j1⟩) (fun s=>g_customer_world_customers_j1 o0c5p o1c0p s.1 s.2=some r) ?_ ?_
 ·rintro ⟨o7c1j1,o8c0j1⟩ H
  replace H:g_customer_world_customers_j1 o0c5p o1c0p o7c1j1 o8c0j1=some r:=H
  unfold g_customer_world_customers_j1 at H
  refine .AH 11 [.i (o0c5p.length:Int)] rfl (s65.n rfl rfl) ?_
  refine .gfreeze (env':=[(0,.ref 0 0),(2,.ref 6 0),(3,.ref 7 0),(4,.mp 8),(53,.d (slOf 1 rI o0c5p)),(54,.d (cI (o0c5p.length:Int))),(55,.d (cI 0))]) (st':=⟨[.row 116 [.mp 1,.mp 2,.mp 3,.mp 4,.mp 5,.d (slOf 1 rI o0c5p),.d (slOf 1 rI o0c6p)],.map (mEnc (fun n=>Value.int .i64 n) (fun x=>.agg (Account.row x)) o1c0p),.map (mEnc (fun n=>Value.int .i64 n) (fun x=>.agg (Sub.row x)) o2c0p),.map (mEnc (fun n=>Value.int .i64 n) (fun x=>cB x) o3c0p),.map (mEnc (fun s=>Value.string ⟨s.toArray⟩) (fun x=>cI x) o4c0p),.map (mEnc (fun n=>Value.int .i64 n) (fun x=>cI x) o5c0p),.row 62 [.d (nilD),.d (nilD)],.row 62 [.d (nilD),.tsl 8 (o7c1j1.map Sub.row) 0],.map (mEnc (fun n=>Value.int .i64 n) (fun x=>slOf 1 rI x) o8c0j1)],[⟨38,8,o7c1j1.length,none⟩]⟩) (e:=3) (sz:=1) (t0:=1) (row:=rI) (T:=[⟨38,8,o7c1j1.length,none⟩]) (l:=o8c0j1) (ke:=(fun n=>Value.int .i64 n)) 8 rfl rfl rfl rfl rfl (okBoth rfl (okCons rfl (okCons okMap (okCons okMap (okCons okMap (okCons okMap (okCons okMap (okCons rfl (okCons rfl (okCons okMap rfl)))))))))) (by rw [hS]; exact Nat.le_of_ble_eq_true rfl) (by rw [hS]; exact Nat.le_of_ble_eq_true rfl) ?_
  refine .tokCell (o:=7) (ci:=0) (e:=77) (sz:=6) rfl rfl ?_
  obtain ⟨n1,H⟩:=loop_some H
  refine .loop (ι:=Nat×(Int×List Account)) (fun ⟨_,v55l1,o7c0l1⟩=>[(0,.ref 0 0),(2,.ref 6 0),(3,.ref 7 0),(4,.mp 8),(53,.d (slOf 1 rI o0c5p)),(54,.d (cI (o0c5p.length:Int))),(55,.d (cI v55l1))]) (fun ⟨_,v55l1,o7c0l1⟩=>⟨[.row 116 [.mp 1,.mp 2,.mp 3,.mp 4,.mp 5,.d (slOf 1 rI o0c5p),.d (slOf 1 rI o0c6p)],.map (mEnc (fun n=>Value.int .i64 n) (fun x=>.agg (Account.row x)) o1c0p),.map (mEnc (fun n=>Value.int .i64 n) (fun x=>.agg (Sub.row x)) o2c0p),.map (mEnc (fun n=>Value.int .i64 n) (fun x=>cB x) o3c0p),.map (mEnc (fun s=>Value.string ⟨s.toArray⟩) (fun x=>cI x) o4c0p),.map (mEnc (fun n=>Value.int .i64 n) (fun x=>cI x) o5c0p),.row 62 [.d (nilD),.d (nilD)],.row 62 [.tsl 6 (o7c0l1.map Account.row) 1,.tsl 8 (o7c1j1.map Sub.row) 0],.map (mEnc (fun n=>Value.int .i64 n) (fun x=>slOf 1 rI x) o8c0j1)],[⟨38,8,o7c1j1.length,none⟩,⟨77,6,o7c0l1.length,none⟩]⟩) (fun p=>iter (fun s=>g_customer_world_customers_l1 o0c5p o1c0p o7c1j1 o8c0j1 s.1 s.2) p.1 p.2=some r) (·.1) (n1,(0,([]:List Account))) H (.cons rfl (.rfl' _) (.cons rfl (.rfl' _) (.cons rfl (.rfl' _) (.cons rfl (.rfl' _) (.cons rfl (.rfl' _) (.cons rfl (.rfl' _) (.cons rfl (.rfl' _) (.nil)))))))) rfl ?_
  rintro ⟨m1,v55l1,o7c0l1⟩ HI ih1
  obtain ⟨n1,q1,hm1,H,HK1⟩:=iter_succ HI
  clear HI
  replace H:g_customer_world_customers_l1 o0c5p o1c0p o7c1j1 o8c0j1 v55l1 o7c0l1=some q1:=H
  unfold g_customer_world_customers_l1 at H
  refine .AH 5 [] rfl trivial ?_
  refine .ite H rfl (fun H=>?_) (fun H=>?_)
  ·obtain ⟨hk1,H⟩:=ck_some H
   obtain ⟨hk2,H⟩:=ck_some H
   obtain ⟨hk3,H⟩:=ck_some H
   refine .AH 42 [.d (.ro (rI (nth o0c5p v55l1.toNat))),.d (.agg (Account.row ((alook o1c0p (nth o0c5p v55l1.toNat)).getD (⟨0,0,0,false,false,([]:List Int)⟩:Account)))),.r 9,.d (slOf 1 rI ((alook o8c0j1 (nth o0c5p v55l1.toNat)).getD ([]:List Int))),.d (slOf 6 Account.row ([(⟨((alook o1c0p (nth o0c5p v55l1.toNat)).getD (⟨0,0,0,false,false,([]:List Int)⟩:Account)).id,((alook o1c0p (nth o0c5p v55l1.toNat)).getD (⟨0,0,0,false,false,([]:List Int)⟩:Account)).since,((alook o1c0p (nth o0c5p v55l1.toNat)).getD (⟨0,0,0,false,false,([]:List Int)⟩:Account)).anchor,((alook o1c0p (nth o0c5p v55l1.toNat)).getD (⟨0,0,0,false,false,([]:List Int)⟩:Account)).prepaid,((alook o1c0p (nth o0c5p v55l1.toNat)).getD (⟨0,0,0,false,false,([]:List Int)⟩:Account)).closed,(alook o8c0j1 (nth o0c5p v55l1.toNat)).getD ([]:List Int)⟩:Account)]:List Account)),.a 1 77 6 Account.row (o7c0l1++([(⟨((alook o1c0p (nth o0c5p v55l1.toNat)).getD (⟨0,0,0,false,false,([]:List Int)⟩:Account)).id,((alook o1c0p (nth o0c5p v55l1.toNat)).getD (⟨0,0,0,false,false,([]:List Int)⟩:Account)).since,((alook o1c0p (nth o0c5p v55l1.toNat)).getD (⟨0,0,0,false,false,([]:List Int)⟩:Account)).anchor,((alook o1c0p (nth o0c5p v55l1.toNat)).getD (⟨0,0,0,false,false,([]:List Int)⟩:Account)).prepaid,((alook o1c0p (nth o0c5p v55l1.toNat)).getD (⟨0,0,0,false,false,([]:List Int)⟩:Account)).closed,(alook o8c0j1 (nth o0c5p v55l1.toNat)).getD ([]:List Int)⟩:Account)]:List Account)),.i (v55l1+1)] rfl ⟨g_addI rfl rfl hk3,s59.a rfl rfl rfl rfl hk2,g_buildSlice1 underlying59 hi77 hs77 hz77 rfl rfl rfl rfl rfl,OpQ.g (q_lookupD (intKF underlying3) (l:=o8c0j1) (val:=(fun x=>slOf 1 rI x)) (k:=nth o0c5p v55l1.toNat) (a0:=([]:List Int)) underlying119 hi65 hz65 (show DLe (nilD) (slOf 1 rI ([]:List Int)) from .nil 1) rfl rfl rfl (fun _ _ _ h=>exKey h)),OpQ.g (q_lookupD (intKF underlying3) (l:=o1c0p) (val:=(fun x=>.agg (Account.row x))) (k:=nth o0c5p v55l1.toNat) (a0:=(⟨0,0,0,false,false,([]:List Int)⟩:Account)) underlying111 hi77 hz77 (show DLe (.agg [cI 0,cI 0,cI 0,cB false,cB false,nilD]) (.agg (Account.row (⟨0,0,0,false,false,([]:List Int)⟩:Account))) from .agg ⟨.rfl' _,.rfl' _,.rfl' _,.rfl' _,.rfl' _,.nil 1,trivial⟩) rfl rfl rfl (fun _ _ _ h=>exKey h)),s65.ix rfl rfl rfl hk1⟩ ?_
   cases H
   exact .t 9 2 (ih1 (n1,(v55l1+1,o7c0l1++([(⟨((alook o1c0p (nth o0c5p v55l1.toNat)).getD (⟨0,0,0,false,false,([]:List Int)⟩:Account)).id,((alook o1c0p (nth o0c5p v55l1.toNat)).getD (⟨0,0,0,false,false,([]:List Int)⟩:Account)).since,((alook o1c0p (nth o0c5p v55l1.toNat)).getD (⟨0,0,0,false,false,([]:List Int)⟩:Account)).anchor,((alook o1c0p (nth o0c5p v55l1.toNat)).getD (⟨0,0,0,false,false,([]:List Int)⟩:Account)).prepaid,((alook o1c0p (nth o0c5p v55l1.toNat)).getD (⟨0,0,0,false,false,([]:List Int)⟩:Account)).closed,(alook o8c0j1 (nth o0c5p v55l1.toNat)).getD ([]:List Int)⟩:Account)]:List Account))) HK1 hm1) rfl rfl rfl rfl (okBoth rfl (okCons rfl (okCons okMap (okCons okMap (okCons okMap (okCons okMap (okCons okMap (okCons rfl (okCons rfl (okCons okMap rfl)))))))))) hS rfl
  ·refine .BH 3 [] rfl trivial ?_
   refine .cellLe 7 0 rfl rfl (.tsl _ _ _) ?_
   refine .cellLe 7 1 rfl rfl (.tsl _ _ _) ?_
   refine .AH 3 [] rfl trivial ?_
   refine .R func65 results65 rfl ?_
   cases H
   cases HK1
   exact ⟨[0,1,2,3,4,5],[],rfl,(okCons rfl (okCons okMap (okCons okMap (okCons okMap (okCons okMap (okCons okMap rfl)))))),(by first | rfl | (simp only [List.map_cons,List.map_nil,renMap,renArr,mergeSt]; rfl)),(by first | rfl | (simp only [List.map_cons,List.map_nil,renMap,renArr,mergeSt]; rfl)),(by first | rfl | (simp only [List.map_cons,List.map_nil,renMap,renArr,mergeSt]; rfl)),(by first | rfl | (simp only [List.map_cons,List.map_nil,renMap,renArr,mergeSt]; rfl)),(by first | rfl | (simp only [List.map_cons,List.map_nil,renMap,renArr,mergeSt]; rfl)),(by first | rfl | (simp only [List.map_cons,List.map_nil,renMap,renArr,mergeSt]; rfl)),.rfl' _⟩
 ·intro hj1 hj1x
  obtain ⟨n2,H⟩:=loop_some H
  refine .loop (ι:=Nat×(Int×List Sub×(List (Int×(List Int))))) (fun ⟨_,v18l2,o7c1l2,o8c0l2⟩=>[(0,.ref 0 0),(2,.ref 6 0),(3,.ref 7 0),(4,.mp 8),(16,.d (slOf 1 rI o0c6p)),(17,.d (cI (o0c6p.length:Int))),(18,.d (cI v18l2))]) (fun ⟨_,v18l2,o7c1l2,o8c0l2⟩=>⟨[.row 116 [.mp 1,.mp 2,.mp 3,.mp 4,.mp 5,.d (slOf 1 rI o0c5p),.d (slOf 1 rI o0c6p)],.map (mEnc (fun n=>Value.int .i64 n) (fun x=>.agg (Account.row x)) o1c0p),.map (mEnc (fun n=>Value.int .i64 n) (fun x=>.agg (Sub.row x)) o2c0p),.map (mEnc (fun n=>Value.int .i64 n) (fun x=>cB x) o3c0p),.map (mEnc (fun s=>Value.string ⟨s.toArray⟩) (fun x=>cI x) o4c0p),.map (mEnc (fun n=>Value.int .i64 n) (fun x=>cI x) o5c0p),.row 62 [.d (nilD),.d (nilD)],.row 62 [.d (nilD),.tsl 8 (o7c1l2.map Sub.row) 0],.map (encE (fun n=>Value.int .i64 n) (gEnc 1 rI 1 o8c0l2))],⟨38,8,o7c1l2.length,none⟩ :: gTails 3 1 o8c0l2⟩) (fun p=>iter (fun s=>g_customer_world_customers_l2 o0c5p o0c6p o1c0p o2c0p s.1 s.2.1 s.2.2) p.1 p.2=some r) (·.1) (n2,(0,([]:List Sub),([]:List (Int×(List Int))))) H (.cons rfl (.rfl' _) (.cons rfl (.rfl' _) (.cons rfl (.rfl' _) (.cons rfl (.rfl' _) (.cons rfl (.rfl' _) (.cons rfl (.rfl' _) (.cons rfl (.rfl' _) (.nil)))))))) rfl ?_
  rintro ⟨m1,v18l2,o7c1l2,o8c0l2⟩ HI ih1
  obtain ⟨n1,q1,hm1,H,HK1⟩:=iter_succ HI
  clear HI
  replace H:g_customer_world_customers_l2 o0c5p o0c6p o1c0p o2c0p v18l2 o7c1l2 o8c0l2=some q1:=H
  unfold g_customer_world_customers_l2 at H
  refine .AH 5 [] rfl trivial ?_
  refine .ite H rfl (fun H=>?_) (fun H=>?_)
  ·obtain ⟨hk4,H⟩:=ck_some H
   refine .AH 30 [.d (.ro (rI (nth o0c6p v18l2.toNat))),.d (.tup [.agg (Sub.row ((alook o2c0p (nth o0c6p v18l2.toNat)).getD (⟨0,0,0,([]:List UInt8),([]:List (List UInt8)),([]:List (List UInt8)),false,false⟩:Sub))),cB ((alook o2c0p (nth o0c6p v18l2.toNat)).isSome)]),.r 9] rfl ⟨OpQ.g (q_lookupOkD (intKF underlying3) (l:=o2c0p) (val:=(fun x=>.agg (Sub.row x))) (k:=nth o0c6p v18l2.toNat) (a0:=(⟨0,0,0,([]:List UInt8),([]:List (List UInt8)),([]:List (List UInt8)),false,false⟩:Sub)) underlying112 hi38 hz38 (show DLe (.agg [cI 0,cI 0,cI 0,cS ([]:List UInt8),nilD,nilD,cB false,cB false]) (.agg (Sub.row (⟨0,0,0,([]:List UInt8),([]:List (List UInt8)),([]:List (List UInt8)),false,false⟩:Sub))) from .agg ⟨.rfl' _,.rfl' _,.rfl' _,.rfl' _,.nil 1,.nil 1,.rfl' _,.rfl' _,trivial⟩) rfl rfl rfl (fun _ _ _ h=>exKey h)),s65.ix rfl rfl rfl hk4⟩ ?_
   refine .ite H rfl (fun H=>?_) (fun H=>?_)
   ·obtain ⟨hk5,H⟩:=ck_some H
    refine .AH 5 [.i (v18l2+1)] rfl (g_addI rfl rfl hk5) ?_
    cases H
    exact .tG 9 (ih1 (n1,(v18l2+1,o7c1l2,o8c0l2)) HK1 hm1) rfl rfl rfl rfl (okBoth rfl (okCons rfl (okCons okMap (okCons okMap (okCons okMap (okCons okMap (okCons okMap (okCons rfl (okCons rfl (okCons (okG (T:=[⟨38,8,o7c1l2.length,none⟩]) rfl) rfl)))))))))) hS rfl rfl
   ·refine .AH 2 [] rfl trivial ?_
    obtain ⟨hk6,H⟩:=ck_some H
    refine .orders1 10 9 [⟨[.row 116 [.mp 1,.mp 2,.mp 3,.mp 4,.mp 5,.d (slOf 1 rI o0c5p),.d (slOf 1 rI o0c6p)],.map (mEnc (fun n=>Value.int .i64 n) (fun x=>.agg (Account.row x)) o1c0p),.map (mEnc (fun n=>Value.int .i64 n) (fun x=>.agg (Sub.row x)) o2c0p),.map (mEnc (fun n=>Value.int .i64 n) (fun x=>cB x) o3c0p),.map (mEnc (fun s=>Value.string ⟨s.toArray⟩) (fun x=>cI x) o4c0p),.map (mEnc (fun n=>Value.int .i64 n) (fun x=>cI x) o5c0p),.row 62 [.d (nilD),.d (nilD)],.row 62 [.d (nilD),.tsl 8 (o7c1l2.map Sub.row) 0],.map (encE (fun n=>Value.int .i64 n) (gEnc 1 rI 1 o8c0l2)),.row 38 [.d (cI (((alook o2c0p (nth o0c6p v18l2.toNat)).getD (⟨0,0,0,([]:List UInt8),([]:List (List UInt8)),([]:List (List UInt8)),false,false⟩:Sub)).id)),.d (cI (((alook o2c0p (nth o0c6p v18l2.toNat)).getD (⟨0,0,0,([]:List UInt8),([]:List (List UInt8)),([]:List (List UInt8)),false,false⟩:Sub)).account)),.d (cI (((alook o2c0p (nth o0c6p v18l2.toNat)).getD (⟨0,0,0,([]:List UInt8),([]:List (List UInt8)),([]:List (List UInt8)),false,false⟩:Sub)).since)),.d (cS (((alook o2c0p (nth o0c6p v18l2.toNat)).getD (⟨0,0,0,([]:List UInt8),([]:List (List UInt8)),([]:List (List UInt8)),false,false⟩:Sub)).plan)),.d (slOf 1 rS (((alook o2c0p (nth o0c6p v18l2.toNat)).getD (⟨0,0,0,([]:List UInt8),([]:List (List UInt8)),([]:List (List UInt8)),false,false⟩:Sub)).numbers)),.d (slOf 1 rS (((alook o2c0p (nth o0c6p v18l2.toNat)).getD (⟨0,0,0,([]:List UInt8),([]:List (List UInt8)),([]:List (List UInt8)),false,false⟩:Sub)).products)),.d (cB (((alook o2c0p (nth o0c6p v18l2.toNat)).getD (⟨0,0,0,([]:List UInt8),([]:List (List UInt8)),([]:List (List UInt8)),false,false⟩:Sub)).suspended)),.d (cB (((alook o2c0p (nth o0c6p v18l2.toNat)).getD (⟨0,0,0,([]:List UInt8),([]:List (List UInt8)),([]:List (List UInt8)),false,false⟩:Sub)).family))]],⟨38,8,o7c1l2.length,none⟩ :: gTails 3 1 o8c0l2⟩,⟨[.row 116 [.mp 1,.mp 2,.mp 3,.mp 4,.mp 5,.d (slOf 1 rI o0c5p),.d (slOf 1 rI o0c6p)],.map (mEnc (fun n=>Value.int .i64 n) (fun x=>.agg (Account.row x)) o1c0p),.map (mEnc (fun n=>Value.int .i64 n) (fun x=>.agg (Sub.row x)) o2c0p),.map (mEnc (fun n=>Value.int .i64 n) (fun x=>cB x) o3c0p),.map (mEnc (fun s=>Value.string ⟨s.toArray⟩) (fun x=>cI x) o4c0p),.map (mEnc (fun n=>Value.int .i64 n) (fun x=>cI x) o5c0p),.row 62 [.d (nilD),.d (nilD)],.row 62 [.d (nilD),.tsl 8 (o7c1l2.map Sub.row) 0],.map (encE (fun n=>Value.int .i64 n) (gEnc 1 rI 1 o8c0l2)),.row 38 [.d (cI (((alook o2c0p (nth o0c6p v18l2.toNat)).getD (⟨0,0,0,([]:List UInt8),([]:List (List UInt8)),([]:List (List UInt8)),false,false⟩:Sub)).id)),.d (cI (((alook o2c0p (nth o0c6p v18l2.toNat)).getD (⟨0,0,0,([]:List UInt8),([]:List (List UInt8)),([]:List (List UInt8)),false,false⟩:Sub)).account)),.d (cI (((alook o2c0p (nth o0c6p v18l2.toNat)).getD (⟨0,0,0,([]:List UInt8),([]:List (List UInt8)),([]:List (List UInt8)),false,false⟩:Sub)).since)),.d (cS (((alook o2c0p (nth o0c6p v18l2.toNat)).getD (⟨0,0,0,([]:List UInt8),([]:List (List UInt8)),([]:List (List UInt8)),false,false⟩:Sub)).plan)),.d (slOf 1 rS (((alook o2c0p (nth o0c6p v18l2.toNat)).getD (⟨0,0,0,([]:List UInt8),([]:List (List UInt8)),([]:List (List UInt8)),false,false⟩:Sub)).numbers)),.d (slOf 1 rS (((alook o2c0p (nth o0c6p v18l2.toNat)).getD (⟨0,0,0,([]:List UInt8),([]:List (List UInt8)),([]:List (List UInt8)),false,false⟩:Sub)).products)),.d (cB (((alook o2c0p (nth o0c6p v18l2.toNat)).getD (⟨0,0,0,([]:List UInt8),([]:List (List UInt8)),([]:List (List UInt8)),false,false⟩:Sub)).suspended)),.d (cB (((alook o2c0p (nth o0c6p v18l2.toNat)).getD (⟨0,0,0,([]:List UInt8),([]:List (List UInt8)),([]:List (List UInt8)),false,false⟩:Sub)).family))]],⟨38,8,o7c1l2.length,none⟩ :: gTails 3 1 (aset o8c0l2 (((alook o2c0p (nth o0c6p v18l2.toNat)).getD (⟨0,0,0,([]:List UInt8),([]:List (List UInt8)),([]:List (List UInt8)),false,false⟩:Sub)).account) (((alook o8c0l2 (((alook o2c0p (nth o0c6p v18l2.toNat)).getD (⟨0,0,0,([]:List UInt8),([]:List (List UInt8)),([]:List (List UInt8)),false,false⟩:Sub)).account)).getD ([]:List Int))++([nth o0c6p v18l2.toNat]:List Int)))⟩] hMix (by kernel_rfl) (by decide) rfl ?_
    show XOps _ _ _ _ _ _ _ _ _ _ (_ :: _) _ _
    refine .g (x:=.mp 8) 0 1 ⟨OpQ.g (q_move rfl),OpQ.g (q_move rfl),trivial⟩ rfl (by kernel_rfl) rfl ?_
    refine .g (x:=.ref 9 1) 0 1 ⟨OpQ.g (q_fieldRef fo_38_1 rfl),OpQ.g (q_fieldRef fo_38_1 rfl),trivial⟩ rfl (by kernel_rfl) rfl ?_
    refine .g (x:=.d (cI (((alook o2c0p (nth o0c6p v18l2.toNat)).getD (⟨0,0,0,([]:List UInt8),([]:List (List UInt8)),([]:List (List UInt8)),false,false⟩:Sub)).account))) 0 1 ⟨OpQ.g (q_loadO one_3 rfl rfl rfl),OpQ.g (q_loadO one_3 rfl rfl rfl),trivial⟩ rfl (by kernel_rfl) rfl ?_
    refine .g (x:=.mp 8) 0 0 ⟨OpQ.g (q_move rfl),trivial⟩ rfl (by kernel_rfl) rfl ?_
    refine .g (x:=.ref 9 1) 0 0 ⟨OpQ.g (q_fieldRef fo_38_1 rfl),trivial⟩ rfl (by kernel_rfl) rfl ?_
    refine .g (x:=.d (cI (((alook o2c0p (nth o0c6p v18l2.toNat)).getD (⟨0,0,0,([]:List UInt8),([]:List (List UInt8)),([]:List (List UInt8)),false,false⟩:Sub)).account))) 0 0 ⟨OpQ.g (q_loadO one_3 rfl rfl rfl),trivial⟩ rfl (by kernel_rfl) rfl ?_
    refine .g (x:=(gev 1 rI 1 o8c0l2 (((alook o2c0p (nth o0c6p v18l2.toNat)).getD (⟨0,0,0,([]:List UInt8),([]:List (List UInt8)),([]:List (List UInt8)),false,false⟩:Sub)).account))) 0 0 ⟨OpQ.g (q_lookupG (intKF underlying3) (l:=o8c0l2) (k:=((alook o2c0p (nth o0c6p v18l2.toNat)).getD (⟨0,0,0,([]:List UInt8),([]:List (List UInt8)),([]:List (List UInt8)),false,false⟩:Sub)).account) (row:=rI) (sz:=1) (t0:=1) underlying119 hi65 hz65 rfl rfl rfl rfl (fun _ _ _ h=>exKey h)),trivial⟩ rfl (by kernel_rfl) rfl ?_
    refine .g (x:=.d (cI (nth o0c6p v18l2.toNat))) 0 0 ⟨OpQ.g (q_move rfl),trivial⟩ rfl (by kernel_rfl) rfl ?_
    refine .g (x:=.d (slOf 1 rI ([nth o0c6p v18l2.toNat]:List Int))) 0 0 ⟨(g_buildSlice1 underlying65 hi3 hs3 hz3 rfl rfl rfl rfl rfl),trivial⟩ rfl (by kernel_rfl) rfl ?_
    refine .v (x:=.tsl 1 ((((alook o8c0l2 (((alook o2c0p (nth o0c6p v18l2.toNat)).getD (⟨0,0,0,([]:List UInt8),([]:List (List UInt8)),([]:List (List UInt8)),false,false⟩:Sub)).account)).getD ([]:List Int))++([nth o0c6p v18l2.toNat]:List Int)).map rI) (1+(afind o8c0l2 (((alook o2c0p (nth o0c6p v18l2.toNat)).getD (⟨0,0,0,([]:List UInt8),([]:List (List UInt8)),([]:List (List UInt8)),false,false⟩:Sub)).account)).getD (o8c0l2).length)) 0 (v_appendG (l:=o8c0l2) (k:=((alook o2c0p (nth o0c6p v18l2.toNat)).getD (⟨0,0,0,([]:List UInt8),([]:List (List UInt8)),([]:List (List UInt8)),false,false⟩:Sub)).account) (l':=([nth o0c6p v18l2.toNat]:List Int)) (T:=[⟨38,8,o7c1l2.length,none⟩]) (row:=rI) (t0:=1) underlying65 hi3 hz3 hs3 rfl (by rw [hb3]; decide) rfl rfl rfl rfl rfl hk6) rfl rfl rfl rfl ?_
    refine .nil rfl ?_
    show AOps _ _ _ _ _ _ (_ :: _) _ _ _
    refine .u (u_mapUpdateG (intKF underlying3) (l:=o8c0l2) (k:=((alook o2c0p (nth o0c6p v18l2.toNat)).getD (⟨0,0,0,([]:List UInt8),([]:List (List UInt8)),([]:List (List UInt8)),false,false⟩:Sub)).account) (v:=((alook o8c0l2 (((alook o2c0p (nth o0c6p v18l2.toNat)).getD (⟨0,0,0,([]:List UInt8),([]:List (List UInt8)),([]:List (List UInt8)),false,false⟩:Sub)).account)).getD ([]:List Int))++([nth o0c6p v18l2.toNat]:List Int)) (row:=rI) (sz:=1) (t0:=1) underlying119 rfl rfl rfl (fun _ _ _ h=>exKey h) rfl) rfl ?_
    obtain ⟨hk7,H⟩:=ck_some H
    obtain ⟨hk8,H⟩:=ck_some H
    refine .AH 15 [.d (slOf 8 Sub.row ([(alook o2c0p (nth o0c6p v18l2.toNat)).getD (⟨0,0,0,([]:List UInt8),([]:List (List UInt8)),([]:List (List UInt8)),false,false⟩:Sub)]:List Sub)),.v (.tsl 8 ((o7c1l2++([(alook o2c0p (nth o0c6p v18l2.toNat)).getD (⟨0,0,0,([]:List UInt8),([]:List (List UInt8)),([]:List (List UInt8)),false,false⟩:Sub)]:List Sub)).map Sub.row) 0) ⟨[.row 116 [.mp 1,.mp 2,.mp 3,.mp 4,.mp 5,.d (slOf 1 rI o0c5p),.d (slOf 1 rI o0c6p)],.map (mEnc (fun n=>Value.int .i64 n) (fun x=>.agg (Account.row x)) o1c0p),.map (mEnc (fun n=>Value.int .i64 n) (fun x=>.agg (Sub.row x)) o2c0p),.map (mEnc (fun n=>Value.int .i64 n) (fun x=>cB x) o3c0p),.map (mEnc (fun s=>Value.string ⟨s.toArray⟩) (fun x=>cI x) o4c0p),.map (mEnc (fun n=>Value.int .i64 n) (fun x=>cI x) o5c0p),.row 62 [.d (nilD),.d (nilD)],.row 62 [.d (nilD),.tsl 8 (o7c1l2.map Sub.row) 0],.map (encE (fun n=>Value.int .i64 n) (gEnc 1 rI 1 (aset o8c0l2 (((alook o2c0p (nth o0c6p v18l2.toNat)).getD (⟨0,0,0,([]:List UInt8),([]:List (List UInt8)),([]:List (List UInt8)),false,false⟩:Sub)).account) (((alook o8c0l2 (((alook o2c0p (nth o0c6p v18l2.toNat)).getD (⟨0,0,0,([]:List UInt8),([]:List (List UInt8)),([]:List (List UInt8)),false,false⟩:Sub)).account)).getD ([]:List Int))++([nth o0c6p v18l2.toNat]:List Int))))),.row 38 [.d (cI (((alook o2c0p (nth o0c6p v18l2.toNat)).getD (⟨0,0,0,([]:List UInt8),([]:List (List UInt8)),([]:List (List UInt8)),false,false⟩:Sub)).id)),.d (cI (((alook o2c0p (nth o0c6p v18l2.toNat)).getD (⟨0,0,0,([]:List UInt8),([]:List (List UInt8)),([]:List (List UInt8)),false,false⟩:Sub)).account)),.d (cI (((alook o2c0p (nth o0c6p v18l2.toNat)).getD (⟨0,0,0,([]:List UInt8),([]:List (List UInt8)),([]:List (List UInt8)),false,false⟩:Sub)).since)),.d (cS (((alook o2c0p (nth o0c6p v18l2.toNat)).getD (⟨0,0,0,([]:List UInt8),([]:List (List UInt8)),([]:List (List UInt8)),false,false⟩:Sub)).plan)),.d (slOf 1 rS (((alook o2c0p (nth o0c6p v18l2.toNat)).getD (⟨0,0,0,([]:List UInt8),([]:List (List UInt8)),([]:List (List UInt8)),false,false⟩:Sub)).numbers)),.d (slOf 1 rS (((alook o2c0p (nth o0c6p v18l2.toNat)).getD (⟨0,0,0,([]:List UInt8),([]:List (List UInt8)),([]:List (List UInt8)),false,false⟩:Sub)).products)),.d (cB (((alook o2c0p (nth o0c6p v18l2.toNat)).getD (⟨0,0,0,([]:List UInt8),([]:List (List UInt8)),([]:List (List UInt8)),false,false⟩:Sub)).suspended)),.d (cB (((alook o2c0p (nth o0c6p v18l2.toNat)).getD (⟨0,0,0,([]:List UInt8),([]:List (List UInt8)),([]:List (List UInt8)),false,false⟩:Sub)).family))]],⟨38,8,(o7c1l2++([(alook o2c0p (nth o0c6p v18l2.toNat)).getD (⟨0,0,0,([]:List UInt8),([]:List (List UInt8)),([]:List (List UInt8)),false,false⟩:Sub)]:List Sub)).length,none⟩ :: gTails 3 1 (aset o8c0l2 (((alook o2c0p (nth o0c6p v18l2.toNat)).getD (⟨0,0,0,([]:List UInt8),([]:List (List UInt8)),([]:List (List UInt8)),false,false⟩:Sub)).account) (((alook o8c0l2 (((alook o2c0p (nth o0c6p v18l2.toNat)).getD (⟨0,0,0,([]:List UInt8),([]:List (List UInt8)),([]:List (List UInt8)),false,false⟩:Sub)).account)).getD ([]:List Int))++([nth o0c6p v18l2.toNat]:List Int)))⟩,.i (v18l2+1)] rfl ⟨g_addI rfl rfl hk8,.e (v_appendL (l:=o7c1l2) (l':=([(alook o2c0p (nth o0c6p v18l2.toNat)).getD (⟨0,0,0,([]:List UInt8),([]:List (List UInt8)),([]:List (List UInt8)),false,false⟩:Sub)]:List Sub)) (row:=Sub.row) underlying60 hi38 hz38 hs38 rfl (by rw [hb38]; decide) rfl rfl rfl rfl hk7) rfl,g_buildSlice1 underlying60 hi38 hs38 hz38 rfl rfl rfl rfl rfl⟩ ?_
    cases H
    exact .tG 9 (ih1 (n1,(v18l2+1,o7c1l2++([(alook o2c0p (nth o0c6p v18l2.toNat)).getD (⟨0,0,0,([]:List UInt8),([]:List (List UInt8)),([]:List (List UInt8)),false,false⟩:Sub)]:List Sub),aset o8c0l2 (((alook o2c0p (nth o0c6p v18l2.toNat)).getD (⟨0,0,0,([]:List UInt8),([]:List (List UInt8)),([]:List (List UInt8)),false,false⟩:Sub)).account) (((alook o8c0l2 (((alook o2c0p (nth o0c6p v18l2.toNat)).getD (⟨0,0,0,([]:List UInt8),([]:List (List UInt8)),([]:List (List UInt8)),false,false⟩:Sub)).account)).getD ([]:List Int))++([nth o0c6p v18l2.toNat]:List Int)))) HK1 hm1) rfl rfl rfl rfl (okBoth rfl (okCons rfl (okCons okMap (okCons okMap (okCons okMap (okCons okMap (okCons okMap (okCons rfl (okCons rfl (okCons (okG (T:=[⟨38,8,o7c1l2.length,none⟩]) rfl) rfl)))))))))) hS rfl rfl
  ·refine .AH 1 [] rfl trivial ?_
   obtain ⟨q0,H9,hq0⟩:=map_some' H; clear H; cases hq0
   cases HK1
   have H:=H9
   exact .z (hj1x (o7c1l2,o8c0l2) H) rfl rfl
theorem c_f_customer_State {v0events:List Event} {v1t:Int} {r:Customers} (H:f_customer_State v0events v1t=some r):ACall prog 46 [slOf 7 Event.row v0events,cI v1t] (·=.agg (Customers.row r)):=by
 refine ACall.enter' func46 rfl ntmps46 rfl fun S hS=>?_
 unfold f_customer_State at H
 obtain ⟨y1,hy1,H⟩:=bind_some' H
 refine .B 6 [.r 0] rfl trivial ?_
 refine .callF (en 31 rfl) rfl [] [] (x:=.ref 1 0) (st':=⟨[.row 62 [.d (nilD),.d (nilD)],.row 116 [.mp 2,.mp 3,.mp 4,.mp 5,.mp 6,.d (nilD),.d (nilD)],.map (mEnc (fun n=>Value.int .i64 n) (fun x=>.agg (Account.row x)) y1.1),.map (mEnc (fun n=>Value.int .i64 n) (fun x=>.agg (Sub.row x)) y1.2.1),.map (mEnc (fun n=>Value.int .i64 n) (fun x=>cB x) y1.2.2.1),.map (mEnc (fun s=>Value.string ⟨s.toArray⟩) (fun x=>cI x) y1.2.2.2.1),.map (mEnc (fun n=>Value.int .i64 n) (fun x=>cI x) y1.2.2.2.2)],[]⟩) rfl (c_g_customer_begin (hy1)) trivial rfl rfl (by first | rfl | (simp only [List.map_cons,List.map_nil,renMap,renArr,mergeSt]; rfl)) rfl rfl (by first | rfl | (simp only [List.map_cons,List.map_nil,renMap,renArr,mergeSt]; rfl)) ?_
 obtain ⟨y2,hy2,H⟩:=bind_some' H
 refine .B 8 [.r 7] rfl trivial ?_
 refine .callF (en 32 rfl) rfl [] [] (x:=.clo 70 [.ref 8 0,.ref 9 0]) (st':=⟨[.row 62 [.d (nilD),.d (nilD)],.row 116 [.mp 2,.mp 3,.mp 4,.mp 5,.mp 6,.d (nilD),.d (nilD)],.map (mEnc (fun n=>Value.int .i64 n) (fun x=>.agg (Account.row x)) y1.1),.map (mEnc (fun n=>Value.int .i64 n) (fun x=>.agg (Sub.row x)) y1.2.1),.map (mEnc (fun n=>Value.int .i64 n) (fun x=>cB x) y1.2.2.1),.map (mEnc (fun s=>Value.string ⟨s.toArray⟩) (fun x=>cI x) y1.2.2.2.1),.map (mEnc (fun n=>Value.int .i64 n) (fun x=>cI x) y1.2.2.2.2),.row 102 [.ref 1 0],.row 22 [.d (slOf 7 Event.row y2.1)],.row 3 [.d (cI y2.2)]],[]⟩) rfl (c_g_customer_upto (hy2)) ⟨.rfl' _,.rfl' _,trivial⟩ rfl rfl (by first | rfl | (simp only [List.map_cons,List.map_nil,renMap,renArr,mergeSt]; rfl)) rfl rfl (by first | rfl | (simp only [List.map_cons,List.map_nil,renMap,renArr,mergeSt]; rfl)) ?_
 refine .A 2 [] rfl trivial ?_
 refine .cellLe 1 5 rfl rfl (.nil 1) ?_
 refine .cellLe 1 6 rfl rfl (.nil 1) ?_
 obtain ⟨y3,hy3,H⟩:=bind_some' H
 refine .rangeFunc (st':=⟨[.row 62 [.d (nilD),.d (nilD)],.row 116 [.mp 2,.mp 3,.mp 4,.mp 5,.mp 6,.d (slOf 1 rI y3.1),.d (slOf 1 rI y3.2.1)],.map (mEnc (fun n=>Value.int .i64 n) (fun x=>.agg (Account.row x)) y3.2.2.1),.map (mEnc (fun n=>Value.int .i64 n) (fun x=>.agg (Sub.row x)) y3.2.2.2.1),.map (mEnc (fun n=>Value.int .i64 n) (fun x=>cB x) y3.2.2.2.2.1),.map (mEnc (fun s=>Value.string ⟨s.toArray⟩) (fun x=>cI x) y3.2.2.2.2.2.1),.map (mEnc (fun n=>Value.int .i64 n) (fun x=>cI x) y3.2.2.2.2.2.2),.row 102 [.ref 1 0],.row 22 [.d (slOf 7 Event.row y2.1)],.row 3 [.d (cI y2.2)]],[]⟩) rfl (en 33 rfl) rfl ?_ ?_
 ·intro S1 tm D l hb1 hi1 hN1 he1 hl1 hS1 vs ha1
  refine c_f_customer_upto_1 hy3 rfl hS1 hi1 hl1 ha1 ?_
  intro S2 o1c5p o1c6p o2c0p o3c0p o4c0p o5c0p o6c0p y e H hsevo hb2 hS hi2 v hv
  have he2:EnvRep S2.g S2.w S2.st [(11,.d (.agg (Event.row e))),(5,.ref 7 0)] (tm.setIfInBounds 11 v):=EnvRep.put (env:=[(5,.ref 7 0)]) ((he1.sub (.cons rfl (.rfl' _) (.nil))).mono hsevo) (by rw [hN1]; decide) (.d _ _ hv)
  have hl:S2.g.ob 11=l:=(hsevo.ob 11 (by rw [hS1]; exact Nat.le_of_ble_eq_true rfl)).trans hl1
  have hh2:=Hist.refl S2
  rw [hS] at he2 hi2 hh2
  unfold f_customer_State_r at H
  refine (?_:ARun prog ⟨46,[],some l⟩ 17 S2 _ [.code _,.beginRound,.code _] [(11,.d (.agg (Event.row e))),(5,.ref 7 0)] _) S2.g S2.w _ hi2 hh2 he2 (by simp [hN1])
  refine .A 4 [.r 13] rfl trivial ?_
  refine .beginRound hl (by rw [hS]; exact Nat.le_of_ble_eq_true rfl) rfl rfl ?_
  obtain ⟨y1,hy1,H⟩:=bind_some' H
  refine .B 4 [] rfl trivial ?_
  refine .callF (en 34 rfl) rfl [1,2,3,4,5,6] [] (x:=.d (.tup [])) (st':=⟨[.row 62 [.d (nilD),.d (nilD)],.row 116 [.mp 2,.mp 3,.mp 4,.mp 5,.mp 6,.d (slOf 1 rI y1.1),.d (slOf 1 rI y1.2.1)],.map (mEnc (fun n=>Value.int .i64 n) (fun x=>.agg (Account.row x)) y1.2.2.1),.map (mEnc (fun n=>Value.int .i64 n) (fun x=>.agg (Sub.row x)) y1.2.2.2.1),.map (mEnc (fun n=>Value.int .i64 n) (fun x=>cB x) y1.2.2.2.2.1),.map (mEnc (fun s=>Value.string ⟨s.toArray⟩) (fun x=>cI x) y1.2.2.2.2.2.1),.map (mEnc (fun n=>Value.int .i64 n) (fun x=>cI x) y1.2.2.2.2.2.2),.row 102 [.ref 1 0],.row 22 [.d (slOf 7 Event.row y2.1)],.row 3 [.d (cI y2.2)],.raw (.deferred (some [])),.raw (.loop { state:=.busy,pending:=none,fn:=46,tmps:=tm,params:=#[11],assign:=_,body:=_,defers:=D }),.row 43 [.d (cI e.at_),.d (cI e.kind),.d (cI e.account),.d (cI e.sub),.d (cS e.number),.d (cS e.name),.d (cI e.value)],.row 43 [.d (cI e.at_),.d (cI e.kind),.d (cI e.account),.d (cI e.sub),.d (cS e.number),.d (cS e.name),.d (cI e.value)]],[]⟩) rfl (c_g_customer_world_apply (hy1)) ⟨.rfl' _,.rfl' _,trivial⟩ rfl (okCons rfl (okCons okMap (okCons okMap (okCons okMap (okCons okMap (okCons okMap rfl)))))) (by first | rfl | (simp only [List.map_cons,List.map_nil,renMap,renArr,mergeSt]; rfl)) rfl rfl (by first | rfl | (simp only [List.map_cons,List.map_nil,renMap,renArr,mergeSt]; rfl)) ?_
  refine .A 2 [] rfl trivial ?_
  cases H
  exact .t 13 0 (env':=[]) (st':=⟨[.row 62 [.d (nilD),.d (nilD)],.row 116 [.mp 2,.mp 3,.mp 4,.mp 5,.mp 6,.d (slOf 1 rI y1.1),.d (slOf 1 rI y1.2.1)],.map (mEnc (fun n=>Value.int .i64 n) (fun x=>.agg (Account.row x)) y1.2.2.1),.map (mEnc (fun n=>Value.int .i64 n) (fun x=>.agg (Sub.row x)) y1.2.2.2.1),.map (mEnc (fun n=>Value.int .i64 n) (fun x=>cB x) y1.2.2.2.2.1),.map (mEnc (fun s=>Value.string ⟨s.toArray⟩) (fun x=>cI x) y1.2.2.2.2.2.1),.map (mEnc (fun n=>Value.int .i64 n) (fun x=>cI x) y1.2.2.2.2.2.2),.row 102 [.ref 1 0],.row 22 [.d (slOf 7 Event.row y2.1)],.row 3 [.d (cI y2.2)],.raw (.deferred (some [])),.raw (.loop { state:=.busy,pending:=none,fn:=46,tmps:=tm,params:=#[11],assign:=_,body:=_,defers:=D }),.row 43 [.d (cI e.at_),.d (cI e.kind),.d (cI e.account),.d (cI e.sub),.d (cS e.number),.d (cS e.name),.d (cI e.value)]],[]⟩) (.roundEnd ⟨_,rfl,rfl⟩) rfl rfl rfl rfl (okBoth rfl (okCons rfl (okCons rfl (okCons okMap (okCons okMap (okCons okMap (okCons okMap (okCons okMap (okCons rfl (okCons rfl (okCons rfl (okCons rfl (okCons rfl (okCons rfl rfl)))))))))))))) hS rfl
 ·intro S1 D x hb1 hD hS
  obtain ⟨y4,hy4,H⟩:=bind_some' H
  refine .B 4 [] rfl trivial ?_
  refine .callF (en 35 rfl) rfl [1,2,3,4,5,6] [] (x:=.d (.agg (Customers.row y4))) (st':=⟨[.row 62 [.d (nilD),.d (nilD)],.row 116 [.mp 2,.mp 3,.mp 4,.mp 5,.mp 6,.d (slOf 1 rI y3.1),.d (slOf 1 rI y3.2.1)],.map (mEnc (fun n=>Value.int .i64 n) (fun x=>.agg (Account.row x)) y3.2.2.1),.map (mEnc (fun n=>Value.int .i64 n) (fun x=>.agg (Sub.row x)) y3.2.2.2.1),.map (mEnc (fun n=>Value.int .i64 n) (fun x=>cB x) y3.2.2.2.2.1),.map (mEnc (fun s=>Value.string ⟨s.toArray⟩) (fun x=>cI x) y3.2.2.2.2.2.1),.map (mEnc (fun n=>Value.int .i64 n) (fun x=>cI x) y3.2.2.2.2.2.2),.row 102 [.ref 1 0],.row 22 [.d (slOf 7 Event.row y2.1)],.row 3 [.d (cI y2.2)],.raw (.deferred (some [])),.raw x],[]⟩) rfl (c_g_customer_world_customers (hy4)) ⟨.rfl' _,trivial⟩ rfl (okCons rfl (okCons okMap (okCons okMap (okCons okMap (okCons okMap (okCons okMap rfl)))))) (by first | rfl | (simp only [List.map_cons,List.map_nil,renMap,renArr,mergeSt]; rfl)) rfl rfl (by first | rfl | (simp only [List.map_cons,List.map_nil,renMap,renArr,mergeSt]; rfl)) ?_
  refine .A 2 [] rfl trivial ?_
  refine .retM (o:=10) [.cell 4 62] [.d (.agg (Customers.row y4))] func46 results46 hD (by rw [hS]; exact Nat.le_of_ble_eq_true rfl) rfl (resV_sound ftok rfl) ?_
  cases H
  exact .m rfl (.rfl' _)
end Go.Proofs.YtnjdcednocmcnaaDoor
