/- Our own texts of this seat. -/
import Derived.Test.YtmabakgaacegjaaGreatDoorYN0
import Derived.Laws.IdiomStrings
import Derived.Laws.RangeString
import Derived.Lib.Bytealg
import Derived.Lib.Index
import Derived.Sort.Grow
import Derived.Deep.Draws
import Derived.Shelf.Strings.Builder1
import Derived.Shelf.Strings.Builder2
import Derived.Shelf.Strings.OnBuilder
import Derived.Shelf.Small.Wraps
import Derived.Shelf.Strconv.Itoa0
import Derived.Shelf.Strconv.Itoa1
import Derived.Shelf.LaysM
import Derived.Shelf.Strconv.Itoa2
import Derived.Shelf.Strconv.Itoa3
import Derived.Shelf.Strings.Search1
import Derived.Shelf.Strings.Search2
import Derived.Shelf.Strings.Search3
import Derived.Shelf.Strings.Count
import Derived.Shelf.Strings.Shaped
import Derived.Shelf.Strings.Prefix
import Derived.Shelf.Unicode.DecodeSlow
import Derived.Test.YtmabakgaacegjaaGreatDoorProg
import Derived.Lib.ItoaNum
import Derived.Lib.Join
import Derived.Lib.Split
import Derived.Lib.Strings
import Derived.Deep.Slices
import Derived.ChangeArms
import Derived.ProofKit
import Derived.Below
import Derived.ChangeSame
set_option linter.unusedSimpArgs false
set_option linter.unusedVariables false
set_option linter.unusedSectionVars false
set_option linter.constructorNameAsVariable false
set_option maxRecDepth 100000
set_option maxHeartbeats 1000000
namespace Go.CI
open Go.RowKit
open Go.Abs
theorem gW:∀ {a b:O uA},oL (a.map UInt8.toNat) (b.map UInt8.toNat)=(a==b)
 | [],[]=>rfl
 | [],_::_=>rfl
 | _::_,[]=>rfl
 | x::a,y::b=>by
  have ih:=gW (a:=a) (b:=b)
  simp only[zcj,oL]
  cases hb:Nat.beq x.toNat y.toNat with
  | true =>
   have:=UInt8.toNat_inj.1 (zae hb)
   subst this
   simp only
   rw[ih,Bool.eq_iff_iff]
   simp
  | false =>
   have:¬ x=y:=λe=>by subst e;rw[zbv] at hb;cases hb
   simp only
   symm
   rw[Bool.eq_false_iff]
   intro e
   exact this (by simpa using (List.cons.inj (by simpa using e)).1)
theorem o7:∀ {a b:O uA},tI (a.map UInt8.toNat) (b.map UInt8.toNat)=Op.bytesLess a b
 | [],[]=>rfl
 | [],_::_=>rfl
 | _::_,[]=>rfl
 | x::a,y::b=>by
  have ih:=o7 (a:=a) (b:=b)
  simp only[zcj,tI,Op.bytesLess]
  cases h1:Nat.ble (x.toNat+1) y.toNat with
  | true =>
   have:x<y:=UInt8.lt_iff_toNat_lt.2 (zac h1)
   simp[this]
  | false =>
   have hn:¬ x<y:=λe=>by
    have:=UInt8.lt_iff_toNat_lt.1 e
    rw[zcz this] at h1;cases h1
   cases hb:Nat.beq x.toNat y.toNat with
   | true =>
    have:=UInt8.toNat_inj.1 (zae hb)
    subst this
    simp only[ih]
    simp
   | false =>
    have:¬ x=y:=λe=>by subst e;rw[zbv] at hb;cases hb
    simp[hn,this]
section pure
variable {P:uF} {T:Tr TI} {r:S1} {μ:Mp} {env:Tr V} {tmps:uD uB}
def nC (P:uF) (op:BinOp) (t:Nat) (x y v:V):Prop :=
 ∀ μ u z (X Y:uG),R μ x u->R μ y z->∃ q,(∀ w,((do eqGuard op t X Y u z;binOp op t u z):Sem uB).run P w=.ok q w)/\R μ v q
theorem ch {op:BinOp} {t:Nat} {X Y:uG} {u z:uB} (h1:¬ (u=.nilIface/\z=.nilIface)) (h2:∀ a b,¬ (u=.agg a/\z=.agg b)) (w:uC):(eqGuard op t X Y u z).run P w=.ok () w:=by
 unfold eqGuard
 split<;>simp only[Bool.not_true,Bool.not_false,zal,zcp,zcf]
 ·split
  ·exact absurd ⟨rfl,rfl⟩ h1
  ·exact absurd ⟨rfl,rfl⟩ (h2 _ _)
  ·rfl
 ·split
  ·exact absurd ⟨rfl,rfl⟩ h1
  ·exact absurd ⟨rfl,rfl⟩ (h2 _ _)
  ·rfl
 ·rfl
theorem bc (b:O uA):(⟨⟨b⟩⟩:ByteArray).toList=b:=by
 show (⟨b.toArray⟩:ByteArray).toList=b
 simp
theorem ua {op:BinOp} {t:Nat} {a b:O Nat} {k:V->X S1} (h:tJ op a b k=.v r):∃ v,k v=.v r/\nC P op t (.s a) (.s b) v:=by
 have hg:∀ (X Y:uG) (p q:O uA) w,(eqGuard op t X Y (.string ⟨⟨p⟩⟩) (.string ⟨⟨q⟩⟩)).run P w=.ok () w:=λX Y p q w=>ch (by simp) (by simp) w
 cases op<;>simp only[tJ] at h<;>try (cases h;done)
 case add =>
  split at h
  ·rename_i hl
   rw[dJ] at h
   refine ⟨_,h,λμ u z X Y hu hz=>?_⟩
   cases hu;cases hz
   rename_i p q
   have hl:=zac hl
   simp only[zbx] at hl
   refine ⟨.string ⟨⟨p++q⟩⟩,λw=>?_,?_⟩
   ·have:=run_string_add_sum (P:=P) (w:=w) ⟨p.toArray⟩ ⟨q.toArray⟩ (by simpa [ByteArray.size] using hl)
    simp only[Sem.run_bind,hg,Result.andThen_ok,binOp]
    exact this.trans (by simp[ByteArray.mk_append_mk])
   ·rw[←List.map_append];exact .s (p++q)
  ·cases h
 all_goals
  rw[kq] at h
  refine ⟨_,h,λμ u z X Y hu hz=>?_⟩
  cases hu;cases hz
  refine ⟨_,λw=>by simp only[Sem.run_bind,hg,Result.andThen_ok,binOp,Op.stringOp];rfl,?_⟩
  simp only[gW,o7,bc]
  exact .c _
theorem wq {a b:uB} {q:Bool} (h:tK a b=some q):Go.Abs.qK a b=q:=by
 unfold tK at h
 split at h
 ·cases h;rfl
 ·split at h
  ·rename_i hk;cases h
   have:=zaw hk
   subst this
   simp only[Go.Abs.qK]
   rw[Bool.eq_iff_iff];simp
  ·cases h
 ·cases h
theorem wu {x y:V} {q:Bool} {u z:uB} (h:tL x y=some q) (hu:R μ x u) (hz:R μ y z):Go.Abs.qK u z=q:=by
 unfold tL at h
 split at h
 ·cases hu;cases hz;exact wq h
 ·cases h;cases hu;cases hz
  simp only[Go.Abs.qK,bc,gW]
 ·cases h
theorem mq:∀ {xs ys:O V} {us zs:O uB} {q:Bool},eqs xs ys=some q->Rs μ xs us->Rs μ ys zs->b8 us zs=q
 | [],[],us,zs,q,h,hu,hz=>by cases hu;cases hz;cases h;rfl
 | a::l,b::m,us,zs,q,h,hu,hz=>by
  cases hu with
  | cons h1 t1 =>
   cases hz with
   | cons h2 t2 =>
    unfold eqs at h
    cases he:tL a b with
    | none=>rw[he] at h;cases h
    | some c =>
     rw[he] at h
     have k1:=wu he h1 h2
     cases c with
     | true =>
      have k2:=mq h t1 t2
      simp only[b8,k1,k2,Bool.true_and]
     | false =>
      cases h
      simp only[b8,k1,Bool.false_and]
theorem ub {k:FK} {x:V} {u:uB} (h:tM k x=true) (hu:R μ x u):bm k u=true:=by
 unfold tM at h
 split at h
 ·cases hu;exact h
 ·cases hu;rfl
 ·cases hu;rfl
 ·cases h
theorem c7:∀ {ks:O FK} {xs:O V} {us:O uB},fits ks xs=true->Rs μ xs us->fitAll ks us=true
 | [],[],us,h,hu=>by cases hu;rfl
 | k::ks,x::xs,us,h,hu=>by
  cases hu with
  | cons h1 t1 =>
   unfold fits at h
   split at h
   ·rename_i hf
    simp only[fitAll,ub hf h1,c7 h t1,Bool.and_self]
   ·cases h
theorem o8 {x:V} {a:Bool} {u:uB} (h:eR .pt x=some a) (hu:R μ x u):(a=true/\u=.pointer none)∨(a=false/\∃ p,u=.pointer (some p)):=by
 simp only[eR] at h
 split at h
 ·cases h;cases hu;exact .inl ⟨rfl,rfl⟩
 ·cases h;cases hu;exact .inr ⟨rfl,_,rfl⟩
 ·cases h
theorem o9 {x:V} {e:Nat} {a:Bool} {u:uB} (h:eR (.sl e) x=some a) (hu:R μ x u):(a=true/\∃ n c,u=.slice none n c)∨(a=false/\∃ p n c,u=.slice (some p) n c):=by
 simp only[eR] at h
 split at h
 ·cases h;cases hu;exact .inl ⟨rfl,_,_,rfl⟩
 ·cases h;cases hu;exact .inr ⟨rfl,_,_,_,rfl⟩
 ·cases h;cases hu;exact .inr ⟨rfl,_,_,_,rfl⟩
 ·cases h
theorem pb {x:V} {e f:Nat} {a:Bool} {u:uB} (h:eR (.mp e f) x=some a) (hu:R μ x u):(a=true/\u=.map none)∨(a=false/\∃ p,u=.map (some p)):=by
 simp only[eR] at h
 split at h
 ·cases h;cases hu;exact .inl ⟨rfl,rfl⟩
 ·cases h;cases hu;exact .inr ⟨rfl,_,rfl⟩
 ·cases h
theorem pd {x:V} {a:Bool} {u:uB} (h:eR .fn x=some a) (hu:R μ x u):(a=true/\u=.nilFunc)∨(a=false/\∃ p q s,u=.func p q s):=by
 simp only[eR] at h
 split at h
 ·cases h;cases hu;exact .inl ⟨rfl,rfl⟩
 ·cases h;cases hu;exact .inr ⟨rfl,_,_,_,rfl⟩
 ·cases h;cases hu;exact .inr ⟨rfl,_,_,_,rfl⟩
 ·cases h
structure wv (P:uF) (t:Nat) (u z:uB) (c:Bool):Prop where
 run:∀ w,(Op.equal t u z).run P w=.ok c w
 g:∀ op (X Y:uG) w,(eqGuard op t X Y u z).run P w=.ok () w
 b1:binOp .eql t u z=(do pure (.bool (←Op.equal t u z)))
 b2:binOp .neq t u z=(do pure (.bool (!(←Op.equal t u z))))
theorem eV {d:TypeDesc}:(bz P d=.ot)∨(d=.bool/\bz P d=.bool)∨(∃ j,d=.int j/\bz P d=.int j)∨(d=.string/\bz P d=.str)∨(∃ e,d=.slice e/\bz P d=.sl e/\(P.info? e).isSome=true/\(P.underlying e).isSome=true) ∨
  (∃ n e,d=.array n e/\bz P d=.ar n e/\(P.info? e).isSome=true/\(P.underlying e).isSome=true)∨(∃ k e,d=.map k e/\bz P d=.mp k e/\(P.info? e).isSome=true/\(P.underlying e).isSome=true)∨(∃ e,d=.pointer e/\bz P d=.pt)∨(∃ p q v,d=.func p q v/\bz P d=.fn) ∨
  ∃ F:uD Field,d=.struct F/\bz P d=.st (F.toList.map λf=>(f.offset,nw P f.type,dn P f.type))/\∀ f∈F.toList,(P.info? f.type).isSome=true/\(P.underlying f.type).isSome=true:=by
 cases d with
 | bool=>exact .inr (.inl ⟨rfl,rfl⟩)
 | int j=>exact .inr (.inr (.inl ⟨j,rfl,rfl⟩))
 | string=>exact .inr (.inr (.inr (.inl ⟨rfl,rfl⟩)))
 | slice e =>
  simp only[bz]
  split
  ·rename_i h;exact .inr (.inr (.inr (.inr (.inl ⟨e,rfl,rfl,by simpa using h⟩))))
  ·exact .inl rfl
 | array n e =>
  simp only[bz]
  split
  ·rename_i h;exact .inr (.inr (.inr (.inr (.inr (.inl ⟨n,e,rfl,rfl,by simpa using h⟩)))))
  ·exact .inl rfl
 | map n e =>
  simp only[bz]
  split
  ·rename_i h;exact .inr (.inr (.inr (.inr (.inr (.inr (.inl ⟨n,e,rfl,rfl,by simpa using h⟩))))))
  ·exact .inl rfl
 | pointer e=>exact .inr (.inr (.inr (.inr (.inr (.inr (.inr (.inl ⟨e,rfl,rfl⟩)))))))
 | func p q v=>exact .inr (.inr (.inr (.inr (.inr (.inr (.inr (.inr (.inl ⟨p,q,v,rfl,rfl⟩))))))))
 | struct F =>
  simp only[bz]
  split
  ·rename_i h
   refine .inr (.inr (.inr (.inr (.inr (.inr (.inr (.inr (.inr ⟨F,rfl,rfl,λf hf=>?_⟩))))))))
   have:=zas.1 h f hf
   simpa using this
  ·exact .inl rfl
 | _=>exact .inl rfl
theorem bT {d:TypeDesc} {e:Nat} (h:bz P d=.sl e):d=.slice e/\∃ i u,P.info? e=some i/\P.underlying e=some u:=by
 rcases eV (P:=P) (d:=d) with e|⟨_,e⟩|⟨_,_,e⟩|⟨_,e⟩|⟨_,h1,e,h2,h3⟩|⟨_,_,_,e,_⟩|⟨_,_,_,e,_⟩|⟨_,_,e⟩|⟨_,_,_,_,e⟩|⟨_,_,e,_⟩<;>rw[e] at h<;>first|(cases h;done)|skip
 cases h
 exact ⟨h1,let ⟨i,hi⟩:=zax.1 h2;let ⟨u,hu⟩:=zax.1 h3;⟨i,u,hi,hu⟩⟩
theorem mr {d:TypeDesc} {n e:Nat} (h:bz P d=.ar n e):d=.array n e/\∃ i u,P.info? e=some i/\P.underlying e=some u:=by
 rcases eV (P:=P) (d:=d) with e|⟨_,e⟩|⟨_,_,e⟩|⟨_,e⟩|⟨_,_,e,_⟩|⟨_,_,h1,e,h2,h3⟩|⟨_,_,_,e,_⟩|⟨_,_,e⟩|⟨_,_,_,_,e⟩|⟨_,_,e,_⟩<;>rw[e] at h<;>first|(cases h;done)|skip
 cases h
 exact ⟨h1,let ⟨i,hi⟩:=zax.1 h2;let ⟨u,hu⟩:=zax.1 h3;⟨i,u,hi,hu⟩⟩
theorem gX {d:TypeDesc} {n e:Nat} (h:bz P d=.mp n e):d=.map n e/\∃ i u,P.info? e=some i/\P.underlying e=some u:=by
 rcases eV (P:=P) (d:=d) with e|⟨_,e⟩|⟨_,_,e⟩|⟨_,e⟩|⟨_,_,e,_⟩|⟨_,_,_,e,_⟩|⟨_,_,h1,e,h2,h3⟩|⟨_,_,e⟩|⟨_,_,_,_,e⟩|⟨_,_,e,_⟩<;>rw[e] at h<;>first|(cases h;done)|skip
 cases h
 exact ⟨h1,let ⟨i,hi⟩:=zax.1 h2;let ⟨u,hu⟩:=zax.1 h3;⟨i,u,hi,hu⟩⟩
theorem wx {d:TypeDesc} (h:bz P d=.pt):∃ e,d=.pointer e:=by
 rcases eV (P:=P) (d:=d) with e|⟨_,e⟩|⟨_,_,e⟩|⟨_,e⟩|⟨_,_,e,_⟩|⟨_,_,_,e,_⟩|⟨_,_,_,e,_⟩|⟨_,h1,e⟩|⟨_,_,_,_,e⟩|⟨_,_,e,_⟩<;>rw[e] at h<;>first|(cases h;done)|exact ⟨_,h1⟩
theorem wy {d:TypeDesc} (h:bz P d=.fn):∃ p q v,d=.func p q v:=by
 rcases eV (P:=P) (d:=d) with e|⟨_,e⟩|⟨_,_,e⟩|⟨_,e⟩|⟨_,_,e,_⟩|⟨_,_,_,e,_⟩|⟨_,_,_,e,_⟩|⟨_,_,e⟩|⟨_,_,_,h1,e⟩|⟨_,_,e,_⟩<;>rw[e] at h<;>first|(cases h;done)|exact ⟨_,_,_,h1⟩
theorem gY {d:TypeDesc} {j:IntKind} (h:bz P d=.int j):d=.int j:=by
 rcases eV (P:=P) (d:=d) with e|⟨_,e⟩|⟨_,h1,e⟩|⟨_,e⟩|⟨_,_,e,_⟩|⟨_,_,_,e,_⟩|⟨_,_,_,e,_⟩|⟨_,_,e⟩|⟨_,_,_,_,e⟩|⟨_,_,e,_⟩<;>rw[e] at h<;>first|(cases h;done)|(cases h;exact h1)
theorem cD {d:TypeDesc} (h:bz P d=.str):d=.string:=by
 rcases eV (P:=P) (d:=d) with e|⟨_,e⟩|⟨_,_,e⟩|⟨h1,e⟩|⟨_,_,e,_⟩|⟨_,_,_,e,_⟩|⟨_,_,_,e,_⟩|⟨_,_,e⟩|⟨_,_,_,_,e⟩|⟨_,_,e,_⟩<;>rw[e] at h<;>first|(cases h;done)|exact h1
theorem rf {d:TypeDesc} (h:bz P d=.bool):d=.bool:=by
 rcases eV (P:=P) (d:=d) with e|⟨h1,e⟩|⟨_,_,e⟩|⟨_,e⟩|⟨_,_,e,_⟩|⟨_,_,_,e,_⟩|⟨_,_,_,e,_⟩|⟨_,_,e⟩|⟨_,_,_,_,e⟩|⟨_,_,e,_⟩<;>rw[e] at h<;>first|(cases h;done)|exact h1
theorem mu {d:TypeDesc} {fs:O (Nat×Nat×Nat)} (h:bz P d=.st fs):∃ F:uD Field,d=.struct F/\fs=F.toList.map (λf=>(f.offset,nw P f.type,dn P f.type))/\∀ f∈F.toList,(P.info? f.type).isSome=true/\(P.underlying f.type).isSome=true:=by
 rcases eV (P:=P) (d:=d) with e|⟨_,e⟩|⟨_,_,e⟩|⟨_,e⟩|⟨_,_,e,_⟩|⟨_,_,_,e,_⟩|⟨_,_,_,e,_⟩|⟨_,_,e⟩|⟨_,_,_,_,e⟩|⟨F,h1,e,h2⟩<;>rw[e] at h<;>first|(cases h;done)|(cases h;exact ⟨F,h1,rfl,h2⟩)
theorem nil_eq {t:Nat} {i:TI} (hT:bA P T) (hi:T.get t=some i) {x y:V} {a b:Bool} {u z:uB} (hx:eR i.k x=some a) (hy:eR i.k y=some b) (cE:a=true∨b=true) (hu:R μ x u) (hz:R μ y z) :
  wv P t u z (a && b):=by
 obtain ⟨inf,d,h1,h2,rfl⟩:=ti hT hi
 simp only at hx hy
 have hd:∀ c,bz P d=c->eR c x=some a/\eR c y=some b:=λc e=>e▸⟨hx,hy⟩
 have hb:∀ w,(Op.equal t u z).run P w=(Op.equalIn (9999+1) t u z).run P w:=λw=>rfl
 cases hk:bz P d with
 | pt =>
  obtain ⟨e,rfl⟩:=wx hk
  obtain ⟨hx,hy⟩:=hd _ hk
  rcases o8 hx hu with ⟨rfl,rfl⟩|⟨rfl,p,rfl⟩<;>rcases o8 hy hz with ⟨rfl,rfl⟩|⟨rfl,q,rfl⟩<;>first
   | (rcases cE with h|h<;>(cases h;done))
   | exact ⟨λw=>by rw[hb];unfold Op.equalIn;simp[run_underlying h2],λop X Y w=>ch (by simp) (by simp) w,rfl,rfl⟩
 | sl e =>
  obtain ⟨rfl,_⟩:=bT hk
  obtain ⟨hx,hy⟩:=hd _ hk
  rcases o9 hx hu with ⟨rfl,n,c,rfl⟩|⟨rfl,p,n,c,rfl⟩<;>rcases o9 hy hz with ⟨rfl,n',c',rfl⟩|⟨rfl,q,n',c',rfl⟩<;>first
   | (rcases cE with h|h<;>(cases h;done))
   | exact ⟨λw=>by rw[hb];unfold Op.equalIn;simp[run_underlying h2],λop X Y w=>ch (by simp) (by simp) w,rfl,rfl⟩
 | mp k e =>
  obtain ⟨rfl,_⟩:=gX hk
  obtain ⟨hx,hy⟩:=hd _ hk
  rcases pb hx hu with ⟨rfl,rfl⟩|⟨rfl,p,rfl⟩<;>rcases pb hy hz with ⟨rfl,rfl⟩|⟨rfl,q,rfl⟩<;>first
   | (rcases cE with h|h<;>(cases h;done))
   | exact ⟨λw=>by rw[hb];unfold Op.equalIn;simp[run_underlying h2],λop X Y w=>ch (by simp) (by simp) w,rfl,rfl⟩
 | fn =>
  obtain ⟨p,q,v,rfl⟩:=wy hk
  obtain ⟨hx,hy⟩:=hd _ hk
  rcases pd hx hu with ⟨rfl,rfl⟩|⟨rfl,p,q,s,rfl⟩<;>rcases pd hy hz with ⟨rfl,rfl⟩|⟨rfl,p',q',s',rfl⟩<;>first
   | (rcases cE with h|h<;>(cases h;done))
   | exact ⟨λw=>by rw[hb];unfold Op.equalIn;simp[run_underlying h2],λop X Y w=>ch (by simp) (by simp) w,rfl,rfl⟩
 | _=>exfalso;obtain ⟨hx,_⟩:=hd _ hk;cases hx
theorem rh {op:BinOp} {b:Bool} {k:V->X S1} (h:fR op b k=.v r):(op=.eql/\k (.c (.bool b))=.v r)∨(op=.neq/\k (.c (.bool (!b)))=.v r):=by
 unfold fR at h
 split at h
 ·rw[kq] at h;exact .inl ⟨rfl,h⟩
 ·rw[kq] at h;exact .inr ⟨rfl,h⟩
 ·cases h
theorem pf {op:BinOp} {t:Nat} {x y:V} {b:Bool} {k:V->X S1} (h:fR op b k=.v r) (hs:∀ μ u z,R μ x u->R μ y z->wv P t u z b):∃ v,k v=.v r/\nC P op t x y v:=by
 rcases rh h with ⟨rfl,h'⟩|⟨rfl,h'⟩
 ·refine ⟨_,h',λμ u z X Y hu hz=>⟨.bool b,λw=>?_,.c _⟩⟩
  have e:=hs μ u z hu hz
  simp only[Sem.run_bind,e.g,Result.andThen_ok,e.b1,e.run,Sem.run_pure]
 ·refine ⟨_,h',λμ u z X Y hu hz=>⟨.bool (!b),λw=>?_,.c _⟩⟩
  have e:=hs μ u z hu hz
  simp only[Sem.run_bind,e.g,Result.andThen_ok,e.b2,e.run,Sem.run_pure]
theorem uc (hT:bA P T) {op:BinOp} {t:Nat} {x y:V} {k:V->X S1} (h:tN T op t x y k=.v r):∃ v,k v=.v r/\nC P op t x y v:=by
 unfold tN at h
 split at h
 ·rename_i i hi
  split at h
  ·rename_i a hx
   split at h
   ·rename_i b hy
    have main:∀ c,(a=true∨b=true)->(a && b)=c->fR op c k=.v r->∃ v,k v=.v r/\nC P op t x y v:=λc cE hc h=>by
     subst hc
     refine pf h λμ u z hu hz=>?_
     exact nil_eq (P:=P) hT hi hx hy cE hu hz
    split at h
    ·exact main b (.inl rfl) (by simp) h
    ·split at h
     ·exact main false (.inr rfl) rfl h
     ·cases h
   ·cases h
  ·cases h
 ·cases h
theorem wz (hT:bA P T) {op:BinOp} {t:Nat} {x y:V} {k:V->X S1} (h:bin T op t x y k=.v r):∃ v,k v=.v r/\nC P op t x y v:=by
 unfold bin at h
 split at h
 ·rename_i j a
  split at h
  ·rename_i j' b
   have main:(j=j'∨op=.shl∨op=.shr)->ny op j a b k=.v r->∃ v,k v=.v r/\nC P op t (.c (.int j a)) (.c (.int j' b)) v:=λhj h=>by
    obtain ⟨v,h1,h2⟩:=tZ (P:=P) (t:=t) hj h
    refine ⟨v,h1,λμ u z X Y hu hz=>?_⟩
    cases hu;cases hz
    obtain ⟨q,h3,h4⟩:=h2 μ
    exact ⟨q,λw=>by simp only[Sem.run_bind,ch (P:=P) (op:=op) (t:=t) (X:=X) (Y:=Y) (u:=.int j a) (z:=.int j' b) (by simp) (by simp),Result.andThen_ok,h3],h4⟩
   split at h
   ·rename_i hk;exact main (.inl (zaw hk)) h
   ·split at h
    ·exact main (.inr (.inl rfl)) h
    ·exact main (.inr (.inr rfl)) h
    ·cases h
  ·cases h
 ·rename_i a
  split at h
  ·rename_i b
   split at h
   ·rename_i i hi
    split at h
    ·rename_i hk
     refine pf h λμ u z hu hz=>?_
     cases hu;cases hz
     obtain ⟨inf,d,h1,h2,rfl⟩:=ti hT hi
     have hd:=rf hk
     subst hd
     exact ⟨λw=>kS h2 a b 9999 w,λop X Y w=>ch (by simp) (by simp) w,rfl,rfl⟩
    ·cases h
   ·cases h
  ·cases h
 ·split at h
  ·exact ua h
  ·cases h
 ·rename_i xs
  split at h
  ·rename_i ys
   split at h
   ·rename_i b hb
    unfold zz at hb
    split at hb
    ·rename_i i hi
     obtain ⟨inf,d,h1,h2,rfl⟩:=ti hT hi
     split at hb
     ·rename_i ks hks
      split at hb
      ·rename_i f1
       split at hb
       ·rename_i f2
        refine pf h λμ u z hu hz=>?_
        cases hu with
        | a hu _ =>
         cases hz with
         | a hz _ =>
          have e:=mq hb hu hz
          have key:=λw op X Y=>oF (P:=P) hks (c7 f1 hu) (c7 f2 hz) w op X Y
          exact ⟨λw=>e▸(key w .eql (.const (.bool true)) (.const (.bool true))).2,λop X Y w=>(key w op X Y).1,rfl,rfl⟩
       ·cases hb
      ·cases hb
     ·cases hb
    ·cases hb
   ·cases h
  ·cases h
 ·exact uc hT h
theorem uf (hT:bA P T) {op:BinOp} {t t2:Nat} {x y:uG} {k:V->X S1} (h:(aL env x λx=>aL env y λy=>bin T op t x y k)=.v r):∃ v,k v=.v r/\iK P env (.binOp op t x y t2) v:=by
 obtain ⟨a,h1,h⟩:=az h
 obtain ⟨b,h2,h⟩:=az h
 obtain ⟨v,h3,h4⟩:=wz hT h
 refine ⟨v,h3,λμ tmps d ty pos af g he=>?_⟩
 obtain ⟨q,h5,h6⟩:=h4 μ _ _ x y (au he h1) (au he h2)
 exact ⟨q,λw=>by simp only[execOp];rw[Sem.run_bind,h5];rfl,h6⟩
end pure
section pure
variable {P:uF} {T:Tr TI} {r:S1} {μ:Mp} {env:Tr V} {tmps:uD uB}
theorem jw {t:Nat} {d:TypeDesc} (hu:P.underlying t=some d):(nw P t=1/\im (some d)=true)∨(nw P t=0/\im (some d)=false):=by
 unfold nw
 rw[hu]
 cases d<;>first|exact .inl ⟨rfl,rfl⟩|exact .inr ⟨rfl,rfl⟩
theorem br {t:Nat} {i:TypeInfo} (h:P.info? t=some i):dn P t=i.size:=by unfold dn;rw[h]
theorem eW {x:V} {n:Nat} {u:uB} (h:qu x=some n) (hu:R μ x u):∃ j,u=.int j (n:Int):=by
 unfold qu at h
 split at h
 ·cases h;cases hu;exact ⟨_,rfl⟩
 ·cases h
theorem a8 (b o n:Nat):(⟨b,o,none⟩:Addr).add n=⟨b,o+n,none⟩:=by
 unfold Addr.add
 split
 ·rename_i h;subst h;rfl
 ·rfl
theorem nD (hT:bA P T) {s f:Nat} {x:uG} {k:V->X S1} (h:(aL env x λx=>js T s x f k)=.v r):∃ v,k v=.v r/\iK P env (.fieldAddr s x f) v:=by
 obtain ⟨a,h1,h⟩:=az h
 unfold js at h
 split at h
 ·rename_i o off
  split at h
  ·rename_i i hi
   obtain ⟨inf,d,e1,e2,rfl⟩:=ti hT hi
   split at h
   ·rename_i fs hk
    rw[c6] at h
    split at h
    ·rename_i d0 g sz hf
     split at h
     rotate_left
     ·cases h
     rename_i yh
     rw[aB] at h
     obtain ⟨F,rfl,rfl,bF⟩:=mu hk
     refine ⟨_,h,λμ tmps d ty pos af g he=>?_⟩
     have hr:=au he h1
     generalize hu:Act.eval ⟨tmps,[]⟩ x=u at hr
     rw[zap] at hf
     cases hF:F.toList[f]? with
     | none=>rw[hF] at hf;cases hf
     | some fl =>
      rw[hF] at hf
      simp only[Option.map_some,Option.some.injEq,Prod.mk.injEq] at hf
      have hfo:di P s f=some d0:=by
       unfold di
       have vS:F[f]?=some fl:=by simpa using hF
       obtain ⟨fi,ve⟩:=zax.1 (bF fl (zaq hF)).1
       have aN:¬ fi.size=0:=by
        have:=zac yh
        rw[←hf.2.2,br ve] at this
        omega
       simp[e2,vS,hf.1,ve,aN]
      cases hr with
      | p _ hp =>
       rename_i pl
       have:=λw=>gv (P:=P) hfo ⟨pl.b,pl.base+off,none⟩ w
       simp only[a8,zay] at this
       exact ⟨_,λw=>by simp only[execOp,hu,Sem.run_bind];rw[this w];rfl,.p _ hp⟩
    ·cases h
   ·cases h
  ·cases h
 ·cases h
theorem pg {t:Nat} {d:TypeDesc} {i:TypeInfo} {cs:O V} {us:O uB} {off:Nat} {k:V->X S1} (hu:P.underlying t=some d) (hi:P.info? t=some i) (h:part (nw P t) (dn P t) cs off k=.v r):∃ v,k v=.v r/\∀ μ us,Rs μ cs us->(∀ u∈us,u.oneCell'=true) ->
  ∃ u,(∀ w,(Go.part t ⟨us⟩ off).run P w=.ok u w)/\R μ v u:=by
 have dh:=br hi
 rcases jw hu with ⟨hg,ha⟩|⟨hg,ha⟩
 ·rw[hg] at h
  simp only[part] at h
  rw[eT,eS] at h
  refine ⟨_,h,λμ us hR h1=>⟨.agg ⟨(us.drop off).take (dn P t)⟩,λw=>?_,.a ((hR.drop off).take _) λu hu=>h1 u (zbg (zbf hu))⟩⟩
  unfold Go.part
  simp only[Sem.run_bind,eQ t w d hu,ha,Result.andThen_ok,zcf,aF hi,Sem.run_pure,dh]
  congr 2
  apply zct
  simp
 ·rw[hg] at h
  simp only[part] at h
  rw[c6] at h
  split at h
  ·rename_i c hc
   refine ⟨c,h,λμ us hR h1=>?_⟩
   obtain ⟨u,k1,k2⟩:=hR.get hc
   refine ⟨u,λw=>?_,k2⟩
   unfold Go.part
   simp only[Sem.run_bind,eQ t w d hu,ha,Result.andThen_ok]
   simp[k1]
  ·cases h
theorem ph (hT:bA P T) {s f:Nat} {x:uG} {k:V->X S1} (h:(aL env x λx=>lr T s x f k)=.v r):∃ v,k v=.v r/\iK P env (.field s x f) v:=by
 obtain ⟨a,h1,h⟩:=az h
 unfold lr at h
 split at h
 ·rename_i cs
  split at h
  ·rename_i i hi
   obtain ⟨inf,d,e1,e2,rfl⟩:=ti hT hi
   split at h
   ·rename_i fs hk
    rw[c6] at h
    split at h
    ·rename_i d0 g sz hf
     obtain ⟨F,rfl,rfl,bF⟩:=mu hk
     rw[zap] at hf
     cases hF:F.toList[f]? with
     | none=>rw[hF] at hf;cases hf
     | some fl =>
      rw[hF] at hf
      simp only[Option.map_some,Option.some.injEq,Prod.mk.injEq] at hf
      obtain ⟨rfl,rfl,rfl⟩:=hf
      obtain ⟨a1,a2⟩:=bF fl (zaq hF)
      obtain ⟨fi,ve⟩:=zax.1 a1
      obtain ⟨fd,AB⟩:=zax.1 a2
      obtain ⟨v,h2,h3⟩:=pg (us:=[]) AB ve h
      refine ⟨v,h2,λμ tmps d ty pos af g he=>?_⟩
      have hr:=au he h1
      generalize hu:Act.eval ⟨tmps,[]⟩ x=u at hr
      cases hr with
      | a hs ir =>
       obtain ⟨q,k1,k2⟩:=h3 μ _ hs ir
       refine ⟨q,λw=>?_,k2⟩
       have vS:F[f]?=some fl:=by simpa using hF
       simp only[execOp,hu,Instr.field,Sem.run_bind,run_underlying e2,Result.andThen_ok,vS,asAgg,Sem.run_pure,k1]
    ·cases h
   ·cases h
  ·cases h
 ·cases h
theorem ri (hT:bA P T) {t:Nat} {x y:uG} {k:V->X S1} (h:(aL env x λx=>aL env y λy=>oO T t x y k)=.v r):∃ v,k v=.v r/\iK P env (.indexAddr t x y) v:=by
 obtain ⟨a,h1,h⟩:=az h
 obtain ⟨b,h2,h⟩:=az h
 unfold oO at h
 split at h
 ·rename_i j hj
  split at h
  ·rename_i i hi
   obtain ⟨inf,d,e1,e2,rfl⟩:=ti hT hi
   split at h
   ·rename_i o off n c hx
    split at h
    ·rename_i e hk
     split at h
     ·rename_i aG
      have aG:=zac aG
      rw[aB] at h
      obtain ⟨rfl,ie,ue,aX,nE⟩:=bT hk
      refine ⟨_,h,λμ tmps d ty pos af g he=>?_⟩
      have hr:=au he h1
      obtain ⟨kk,hI⟩:=eW hj (au he h2)
      generalize hu:Act.eval ⟨tmps,[]⟩ x=u at hr
      cases hr with
      | l _ _ _ kc hp lG hc =>
       refine ⟨_,λw=>?_,.p _ hp⟩
       have rj:(0:Int)<=(j:Int)/\(j:Int)<(n:Int):=by omega
       simp only[execOp,hu,hI,Instr.indexAt,Sem.run_bind,asIntOf,run_underlying e2,Result.andThen_ok,Sem.run_pure,zam rj,aF aX,a8,zcn,gi,br aX,zay]
     ·cases h
    ·cases h
   ·rename_i o off hx
    split at h
    ·rename_i n e hk
     split at h
     ·rename_i aG
      have aG:=zac aG
      rw[aB] at h
      obtain ⟨rfl,ie,ue,aX,nE⟩:=mr hk
      refine ⟨_,h,λμ tmps d ty pos af g he=>?_⟩
      have hr:=au he h1
      obtain ⟨kk,hI⟩:=eW hj (au he h2)
      generalize hu:Act.eval ⟨tmps,[]⟩ x=u at hr
      cases hr with
      | p _ hp =>
       refine ⟨_,λw=>?_,.p _ hp⟩
       have rj:(0:Int)<=(j:Int)/\(j:Int)<(n:Int):=by omega
       simp only[execOp,hu,hI,Instr.indexAt,Instr.sureAddr,Sem.run_bind,asIntOf,run_underlying e2,Result.andThen_ok,Sem.run_pure,zam rj,aF aX,a8,zcn,gi,br aX,zay]
     ·cases h
    ·cases h
   ·cases h
  ·cases h
 ·cases h
end pure
section pure
variable {P:uF} {T:Tr TI} {r:S1} {μ:Mp} {env:Tr V} {tmps:uD uB}
theorem byte_at {bs:O uA} {j b:Nat} (h:(bs.map UInt8.toNat)[j]?=some b):∃ c:uA,(⟨⟨bs⟩⟩:ByteArray)[j]?=some c/\c.toNat=b:=by
 rw[zap] at h
 cases hc:bs[j]? with
 | none=>rw[hc] at h;cases h
 | some c =>
  rw[hc] at h
  cases h
  refine ⟨c,?_,rfl⟩
  have hl:=(zaa.1 hc).1
  show (⟨bs.toArray⟩:ByteArray)[j]?=some c
  rw[ByteArray.getElem?_lt' _ _ (by simpa [ByteArray.size] using hl)]
  have:=(zaa.1 hc).2
  simpa [ByteArray.getElem_eq_getElem_data] using this
theorem ug (hT:bA P T) {t:Nat} {x y:uG} {k:V->X S1} (h:(aL env x λx=>aL env y λy=>tO T t x y k)=.v r):∃ v,k v=.v r/\iK P env (.index t x y) v:=by
 obtain ⟨a,h1,h⟩:=az h
 obtain ⟨b,h2,h⟩:=az h
 unfold tO at h
 split at h
 ·rename_i j hj
  split at h
  ·rename_i l hx
   split at h
   rotate_left
   ·cases h
   rename_i i hi
   obtain ⟨inf,d,e1,e2,rfl⟩:=ti hT hi
   split at h
   rotate_left
   ·cases h
   rename_i hk
   have hd:=cD hk
   subst hd
   rw[c6] at h
   split at h
   ·rename_i b' hb
    refine ⟨_,h,λμ tmps d ty pos af g he=>?_⟩
    have hr:=au he h1
    obtain ⟨kk,hI⟩:=eW hj (au he h2)
    generalize hu:Act.eval ⟨tmps,[]⟩ x=u at hr
    cases hr with
    | s bs =>
     obtain ⟨c,rj,rfl⟩:=byte_at hb
     have hty:P.underlying t=some .string:=e2
     have h0:(0:Int)<=(j:Int):=by omega
     exact ⟨.int .u8 (c.toNat:Int),λw=>by simp[execOp,hu,hI,Instr.index,asIntOf,run_underlying hty,rj],.c _⟩
   ·cases h
  ·rename_i cs hx
   split at h
   ·rename_i i hi
    obtain ⟨inf,d,e1,e2,rfl⟩:=ti hT hi
    split at h
    ·rename_i n e hk
     split at h
     ·rename_i aG
      have aG:=zac aG
      obtain ⟨rfl,ie,ue,aX,nE⟩:=mr hk
      obtain ⟨v,h3,h4⟩:=pg (us:=[]) nE aX h
      refine ⟨v,h3,λμ tmps d ty pos af g he=>?_⟩
      have hr:=au he h1
      obtain ⟨kk,hI⟩:=eW hj (au he h2)
      generalize hu:Act.eval ⟨tmps,[]⟩ x=u at hr
      cases hr with
      | a hs ir =>
       obtain ⟨q,k1,k2⟩:=h4 μ _ hs ir
       refine ⟨q,λw=>?_,k2⟩
       have rj:(0:Int)<=(j:Int)/\(j:Int)<(n:Int):=by omega
       simp only[gi,br aX] at k1
       simp only[execOp,hu,hI,Instr.index,Sem.run_bind,asIntOf,run_underlying e2,Result.andThen_ok,Sem.run_pure,zam rj,aF aX,zcn,k1]
     ·cases h
    ·cases h
   ·cases h
  ·cases h
 ·cases h
theorem mv (hT:bA P T) {s t:Nat} {i0:TypeInfo} {d0:TypeDesc} (hs:P.info? s=some i0) (zC:P.underlying s=some d0) (tn:∀ e,d0≠.slice e) (AD:d0≠.unsafePointer) {x:uG} {k:V->X S1} (h:(aL env x λx=>mf T t x k)=.v r):∃ v,k v=.v r/\iK P env (.convert s t x) v:=by
 obtain ⟨a,h1,h⟩:=az h
 unfold mf at h
 split at h
 ·rename_i i hi
  obtain ⟨inf,d,e1,e2,rfl⟩:=ti hT hi
  split at h
  ·rename_i j hk
   have:=gY hk
   subst this
   split at h
   ·rename_i j' n hx
    rw[gU] at h
    refine ⟨_,h,λμ tmps d ty pos af g he=>⟨_,λw=>?_,.c _⟩⟩
    have hr:=(au he h1).int
    simp only[execOp,hr,convert,Sem.run_bind,run_underlying zC,run_underlying e2,Result.andThen_ok,Conv.intToInt,Sem.run_pure]
   ·cases h
  ·rename_i hk
   have:=cD hk
   subst this
   split at h
   ·rename_i l hx
    refine ⟨_,h,λμ tmps d ty pos af g he=>⟨Act.eval ⟨tmps,[]⟩ x,λw=>?_,au he h1⟩⟩
    have hr:=au he h1
    generalize hu:Act.eval ⟨tmps,[]⟩ x=u at hr
    cases hr
    simp only[execOp,hu,convert,Sem.run_bind,run_underlying zC,run_underlying e2,Result.andThen_ok]
    cases d0<;>first|rfl|(exact absurd rfl (tn _))|(exact absurd rfl AD)
   ·cases h
  ·cases h
 ·cases h
theorem rk {cs vs:O uB} {off:Nat} (h:off+vs.length<=cs.length):lay ⟨cs⟩ ⟨vs⟩ off=⟨cs.take off++vs++cs.drop (off+vs.length)⟩:=by
 obtain ⟨h1,h2⟩:=qI ⟨cs⟩ ⟨vs⟩ off (by simpa using h)
 apply Array.ext_getElem?
 intro i
 by_cases hi:i<cs.length
 ·rw[h2 i (by simpa using hi)]
  simp only[zcv,zbo]
  by_cases hA:i<off
  ·rw[zaj (by omega),zcm,zak (by simp;omega),zai,zam hA]
  ·by_cases hB:i<off+vs.length
   ·rw[zam (by omega),zcm,zav (by simp;omega),zak (by simp;omega)]
    congr 1;simp;omega
   ·rw[zaj (by omega),zav (by simp;omega),zbp]
    congr 1;simp;omega
 ·have e1:(lay ⟨cs⟩ ⟨vs⟩ off)[i]?=none:=by rw[zcw];rw[h1];simpa using hi
  rw[e1]
  symm
  simp only[zbo,List.getElem?_eq_none_iff,zbb,zco,zch]
  omega
theorem lH {t:TI}:∀ {ps:O (Nat×uG)} {cs:O V} {k:O V->X S1},fill env t ps cs k=.v r->∃ iL,k iL=.v r/\iL.length=cs.length/\∀ μ tmps us (pl:Nat->J (Nat×Nat)),(∀ i,pl i=place t i)->ER μ env tmps->Rs μ cs us->(∀ u∈us,u.oneCell'=true) ->
  ∃ jS,Instr.fill pl ⟨us⟩ (ps.map λp=>(p.1,Act.eval ⟨tmps,[]⟩ p.2))=some ⟨jS⟩/\Rs μ iL jS/\∀ u∈jS,u.oneCell'=true
 | [],cs,k,h=>⟨cs,h,rfl,λμ tmps us pl _ _ hR h1=>⟨us,rfl,hR,h1⟩⟩
 | (i,x)::ps,cs,k,h=>by
  unfold fill at h
  split at h
  ·rename_i off sz hp
   obtain ⟨v,h1,h⟩:=az h
   split at h
   ·rename_i vs hc
    split at h
    ·rename_i hb
     simp only[zaf] at hb
     have Bw:=zae hb.1
     have vf:=zac hb.2
     rw[mn _ _ _ _ (by omega)] at h
     obtain ⟨iL,h2,h3,h4⟩:=lH h
     refine ⟨iL,h2,by rw[h3];simp;omega,λμ tmps us pl nY he hR ir=>?_⟩
     have hv:=au he h1
     obtain ⟨c1,c2⟩:=bW hc hv
     have hl:=hR.len
     have cJ:=c1.len
     have rl:Rs μ (cs.take off++vs++cs.drop (off+vs.length)) (us.take off++(Act.eval ⟨tmps,[]⟩ x).cells.toList++us.drop (off+(Act.eval ⟨tmps,[]⟩ x).cells.toList.length)):=by
      rw[←cJ];exact ((hR.take off).append c1).append (hR.drop _)
     have wA:∀ u∈us.take off++(Act.eval ⟨tmps,[]⟩ x).cells.toList++us.drop (off+(Act.eval ⟨tmps,[]⟩ x).cells.toList.length),u.oneCell'=true:=λu hu=>by
      simp only[zbq] at hu
      rcases hu with (hu|hu)|hu
      ·exact ir u (zbf hu)
      ·exact c2 u hu
      ·exact ir u (zbg hu)
     obtain ⟨jS,k1,k2,k3⟩:=h4 μ tmps _ pl nY he rl wA
     refine ⟨jS,?_,k2,k3⟩
     have hle:=rk (cs:=us) (vs:=(Act.eval ⟨tmps,[]⟩ x).cells.toList) (off:=off) (by omega)
     simp only[zcj,Instr.fill,nY,hp]
     rw[zaj (by simp at cJ ⊢;omega)]
     rw[←k1]
     show Instr.fill pl (lay ⟨us⟩ (Act.eval ⟨tmps,[]⟩ x).cells off) _=_
     congr 1
    ·cases h
   ·cases h
  ·cases h
theorem pj (hT:bA P T) {t:Nat} {ps:uD (Nat×uG)} {k:V->X S1} (h:lq T env t ps.toList k=.v r):∃ v,k v=.v r/\iK P env (.build t ps) v:=by
 unfold lq at h
 split at h
 ·rename_i i hi
  obtain ⟨inf,d,e1,e2,rfl⟩:=ti hT hi
  split at h
  rotate_left
  ·cases h
  rename_i wB
  split at h
  ·rename_i z hz
   obtain ⟨jx,zv,z1,z2,z3,_⟩:=dL hz
   rw[e1] at z1
   cases z1
   obtain ⟨iL,h2,h3,h4⟩:=lH h
   refine ⟨_,h2,λμ tmps d' ty pos af g he=>?_⟩
   simp only at hz
   rw[z3] at hz
   obtain ⟨c1,c2⟩:=bW hz (dY μ zv)
   have main:∀ pl:Nat->J (Nat×Nat),(∀ i,pl i=place ⟨bz P d,inf.size,kI P t,dn P (gi d),kI P (gi d),nw P (gi d),nw P t,kh P t,Go.Abs.bu P t,ln P (gi d)⟩ i)->∃ jS,Instr.fill pl zv.cells (ps.toList.map λp=>(p.1,Act.eval ⟨tmps,[]⟩ p.2))=some ⟨jS⟩/\R μ (.a iL) (.agg ⟨jS⟩):=λpl nY=>by
    obtain ⟨jS,k1,k2,k3⟩:=h4 μ tmps _ pl nY he c1 c2
    exact ⟨jS,k1,.a k2 k3⟩
   cases hk:bz P d with
   | st fs =>
    obtain ⟨F,rfl,rfl,bF⟩:=mu hk
    obtain ⟨jS,k1,k2⟩:=main (λi=>(F.toList.map λf=>(f.offset,dn P f.type))[i]?) (λi=>by
     unfold place
     simp only[hk]
     rw[c6]
     simp only[zap]
     cases F.toList[i]?<;>rfl)
    refine ⟨_,λw=>?_,k2⟩
    have nY:(F.mapM (λf=>do pure (f.offset,←sizeOf f.type):Field->Sem (Nat×Nat))).run P w=.ok (F.toList.map λf=>(f.offset,dn P f.type)).toArray w:=by
     rw[←Array.toArray_toList (xs:=F),List.mapM_toArray]
     simp only[Sem.run_map,j4 (P:=P) F.toList (λf hf=>(bF f hf).1) w,Result.andThen_ok]
    have uh:(λi:Nat=>((F.toList.map λf=>(f.offset,dn P f.type)).toArray)[i]?)=(λi=>(F.toList.map λf=>(f.offset,dn P f.type))[i]?):=by
     funext i
     simp
    have yz:Instr.fill (λi=>(F.toList.map λf=>(f.offset,dn P f.type))[i]?) zv.cells (Array.map (λ(x:Nat×uG)=>(x.1,Act.eval ⟨tmps,[]⟩ x.2)) ps).toList=some ⟨jS⟩:=by simpa using k1
    simp only[execOp,Instr.build,Sem.run_bind,bM e1 z2,Result.andThen_ok,run_underlying e2,nY]
    rw[uh]
    simp only[yz,Sem.run_pure]
    rfl
   | ar n e =>
    obtain ⟨rfl,ie,ue,aX,nE⟩:=mr hk
    obtain ⟨jS,k1,k2⟩:=main (λi=>some (i*ie.size,ie.size)) (λi=>by
     unfold place
     simp only[hk,gi,br aX])
    refine ⟨_,λw=>?_,k2⟩
    have yz:Instr.fill (λi=>some (i*ie.size,ie.size)) zv.cells (Array.map (λ(x:Nat×uG)=>(x.1,Act.eval ⟨tmps,[]⟩ x.2)) ps).toList=some ⟨jS⟩:=by simpa using k1
    simp only[execOp,Instr.build,Sem.run_bind,bM e1 z2,Result.andThen_ok,run_underlying e2,aF aX,yz,Sem.run_pure]
   | _=>simp only at wB;rw[hk] at wB;cases wB
  ·cases h
 ·cases h
theorem yA {b:Bool} {x y:V} {k:V->X S1} (h:mm b x y k=.v r):∃ v,k v=.v r/\∀ μ u z,R μ x u->R μ y z->∃ q,(∀ w,((if b then Builtin.min2 else Builtin.max2) u z).run P w=.ok q w)/\R μ v q:=by
 unfold mm at h
 split at h
 ·rename_i j m
  split at h
  ·rename_i j' n
   split at h
   ·split at h
    ·rename_i hc
     have hc:=zaw hc
     exact ⟨_,h,λμ u z hu hz=>by cases hu;cases hz;exact ⟨_,λw=>by simp only[zcf,Builtin.min2,zam hc];rfl,.c _⟩⟩
    ·rename_i hc
     have hc:=of_decide_eq_false hc
     exact ⟨_,h,λμ u z hu hz=>by cases hu;cases hz;exact ⟨_,λw=>by simp only[zcf,Builtin.min2,zaj hc];rfl,.c _⟩⟩
   ·split at h
    ·rename_i hc
     have hc:=zaw hc
     exact ⟨_,h,λμ u z hu hz=>by cases hu;cases hz;exact ⟨_,λw=>by simp only[zal,zcp,Builtin.max2,zam hc];rfl,.c _⟩⟩
    ·rename_i hc
     have hc:=of_decide_eq_false hc
     exact ⟨_,h,λμ u z hu hz=>by cases hu;cases hz;exact ⟨_,λw=>by simp only[zal,zcp,Builtin.max2,zaj hc];rfl,.c _⟩⟩
  ·cases h
 ·cases h
theorem sE {b:Bool}:∀ {l:O V} {x:V} {k:V->X S1},xo b l x k=.v r->∃ v,k v=.v r/\∀ μ us u,Rs μ l us->R μ x u->∃ q,(∀ w,(us.foldlM (if b then Builtin.min2 else Builtin.max2) u).run P w=.ok q w)/\R μ v q
 | [],x,k,h=>⟨x,h,λμ us u hl hx=>by cases hl;exact ⟨u,λw=>rfl,hx⟩⟩
 | y::l,x,k,h=>by
  unfold xo at h
  obtain ⟨z,h1,h2⟩:=yA (P:=P) h
  obtain ⟨v,h3,h4⟩:=sE h1
  refine ⟨v,h3,λμ us u hl hx=>?_⟩
  cases hl with
  | cons hy hl =>
   obtain ⟨q,k1,k2⟩:=h2 μ _ _ hx hy
   obtain ⟨q',k3,k4⟩:=h4 μ _ _ hl k2
   exact ⟨q',λw=>by simp only[List.foldlM_cons,Sem.run_bind,k1,Result.andThen_ok,k3],k4⟩
theorem sF {b:Bool} {xs:uD uG} {ts:uD uE} {k:V->X S1} (h:(kJ env xs.toList λl=>xp b l k)=.v r):∃ v,k v=.v r/\iK P env (.call ⟨.builtin (if b then .min else .max),xs,ts⟩) v:=by
 obtain ⟨vs,h1,h⟩:=dX h
 unfold xp at h
 split at h
 ·cases h
 ·rename_i x l
  obtain ⟨v,h2,h3⟩:=sE (P:=P) h
  refine ⟨v,h2,λμ tmps d ty pos af g he=>?_⟩
  have hE:=dv he h1
  generalize hm:xs.toList.map (Act.eval ⟨tmps,[]⟩)=us at hE
  cases hE with
  | cons hx hl =>
   obtain ⟨q,k1,k2⟩:=h3 μ _ _ hl hx
   refine ⟨q,λw=>?_,k2⟩
   cases b with
   | true=>simp[execOp,resolve,invoke,builtin,Builtin.min_,hm];have:=k1 w;simp only[zcf] at this;rw[this];rfl
   | false=>simp[execOp,resolve,invoke,builtin,Builtin.max_,hm];have:=k1 w;simp only[zal,zcp] at this;rw[this];rfl
theorem ui {xs:uD uG} {ts:uD uE} {k:V->X S1} (h:(kJ env xs.toList λl=>tQ l k)=.v r) (ht:∃ t e,ts[0]?=some t/\P.underlying t=some (.slice e)):∃ v,k v=.v r/\iK P env (.call ⟨.builtin .cap,xs,ts⟩) v:=by
 obtain ⟨vs,h1,h⟩:=dX h
 obtain ⟨t,e,xx,iB⟩:=ht
 unfold tQ at h
 have hx:∀ (tmps:uD uB) u,xs.toList.map (Act.eval ⟨tmps,[]⟩)=[u]->(xs.map (Act.eval ⟨tmps,[]⟩))[0]?=some u:=λtmps u hm=>by
  have:(xs.map (Act.eval ⟨tmps,[]⟩)).toList=[u]:=by simpa using hm
  rw[←zcc,this];rfl
 split at h
 ·rename_i o off n c
  refine ⟨_,h,λμ tmps d ty pos af g he=>?_⟩
  have hE:=dv he h1
  generalize hm:xs.toList.map (Act.eval ⟨tmps,[]⟩)=us at hE
  cases hE with
  | cons hy hl =>
   cases hl
   have:=hx tmps _ hm
   cases hy with
   | l _ _ _ k hp hk hc =>
    rcases hc with hc|⟨hc,_⟩<;>cases hc
    exact ⟨_,λw=>by simp only[execOp,resolve,Sem.run_bind,Sem.run_pure,Result.andThen_ok,invoke,builtin,Builtin.cap_,xx,this,run_underlying iB];rfl,.c _⟩
 ·refine ⟨_,h,λμ tmps d ty pos af g he=>?_⟩
  have hE:=dv he h1
  generalize hm:xs.toList.map (Act.eval ⟨tmps,[]⟩)=us at hE
  cases hE with
  | cons hy hl =>
   cases hl
   have:=hx tmps _ hm
   cases hy
   exact ⟨_,λw=>by simp only[execOp,resolve,Sem.run_bind,Sem.run_pure,Result.andThen_ok,invoke,builtin,Builtin.cap_,xx,this,run_underlying iB];rfl,.c _⟩
 ·cases h
end pure
section rd
variable {P:uF} {T:Tr TI} {r:S1} {μ:Mp} {env:Tr V} {tmps:uD uB} {h:Tr Ob}
def nZ (P:uF) (env:Tr V) (h:Tr Ob) (o:Op) (v:V):Prop :=
 ∀ μ B w tmps (d:Option Tmp) (ty:Nat) (pos:String) (af:uD Edge) (g:Option (Nat×Bool)),HR μ B h.get w->ER μ env tmps->∃ u,(execOp (Act.eval ⟨tmps,[]⟩) ⟨d,o,ty,pos,af,g⟩).run P w=.ok (.value u) w/\R μ v u
structure Cells (w:uC) (pl:Pl) (vs:List uB):Prop where
 get:∀ i u,vs[i]?=some u->w.cell? ⟨pl.b,pl.base+i,none⟩=some u
 one:∀ u∈vs,u.oneCell'=true
theorem lI {pl:Pl} {w:uC} {ty:Nat} {fz:Nat×Nat} {pre vs post:O uB} (h1:w.heap[pl.b]?=some (.cells ⟨pre++(vs++post)⟩ ty fz)) (h2:pre.length=pl.base) (h5:∀ u∈vs,u.oneCell'=true):Cells w pl vs:=by
 refine ⟨λi u hu=>?_,h5⟩
 simp only[World.cell?,h1]
 have hl:=(zaa.1 hu).1
 rw[zaj (by simp)]
 simp only[zbo]
 rw[zav (by omega),←h2,zcu,zak hl,hu]
theorem bZ {pl:Pl} {w:uC} {ty:Nat} {cs:O V} (hr:Row μ pl w ty cs):∃ vs,Rs μ cs vs/\Cells w pl vs:=by
 obtain ⟨fz,pre,vs,post,h1,h0,h2,h3,h4,h5⟩:=hr
 refine ⟨vs,h4,⟨λi u hu=>?_,h5⟩⟩
 simp only[World.cell?,h1]
 have hl:=(zaa.1 hu).1
 rw[zaj (by simp)]
 simp only[zbo]
 rw[zav (by omega),←h2,zcu,zak hl,hu]
theorem iM {o B:Nat} {cs:O V} {w:uC} (bE:row h o=some cs) (hH:HR μ B h.get w):∃ pl ty,μ o=some pl/\Row μ pl w ty cs:=by
 unfold row at bE
 split at bE
 ·rename_i ty sz iL hg
  cases bE
  obtain ⟨pl,h1,_,pn,h2⟩:=hH.ob o _ hg
  exact ⟨pl,pn,h1,h2⟩
 ·rename_i iL hg
  cases bE
  obtain ⟨pl,h1,ty,h2⟩:=hH.ob o _ hg
  exact ⟨pl,ty,h1,h2⟩
 ·cases bE
theorem jy {o off n:Nat} {k:O V->X S1} (hm:nz h o off n k=.v r):∃ cs,row h o=some cs/\off+n<=cs.length/\k ((cs.drop off).take n)=.v r:=by
 unfold nz at hm
 split at hm
 ·rename_i cs hc
  split at hm
  ·rename_i hb
   rw[eT,eS] at hm
   exact ⟨cs,hc,zac hb,hm⟩
  ·cases hm
 ·cases hm
theorem bP {w:uC} {pl:Pl} {vs:O uB} (hc:Cells w pl vs) {off n:Nat} (hn:off+n<=vs.length):(loadCells ⟨pl.b,pl.base+off,none⟩ n).run P w=.ok ⟨(vs.drop off).take n⟩ w:=by
 have:=ig (P:=P) (w:=w) (b:=pl.b) (off:=pl.base+off) (n:=n) (vs:=(vs.drop off).take n) (by simp;omega) (λj u hj=>by
  rw[zai] at hj
  split at hj
  ·rw[zbp] at hj
   rw[zay]
   exact hc.get _ _ hj
  ·cases hj)
 exact this
theorem mw (hT:bA P T) {t:Nat} {x:uG} {k:V->X S1} (hh:(aL env x λx=>km T h t x k)=.v r):∃ v,k v=.v r/\nZ P env h (.load t x) v:=by
 obtain ⟨a,h1,hh⟩:=az hh
 unfold km at hh
 split at hh
 ·rename_i o off
  split at hh
  ·rename_i i hi
   obtain ⟨inf,d,e1,e2,rfl⟩:=ti hT hi
   split at hh
   ·rename_i hg
    have ha:im (some d)=false:=by
     rcases jw e2 with ⟨h1,h2⟩|⟨h1,h2⟩
     ·rw[h1] at hg;cases hg
     ·exact h2
    split at hh
    ·rename_i cs hc
     rw[c6] at hh
     split at hh
     ·rename_i c fO
      refine ⟨_,hh,λμ B w tmps d' ty pos af g hH he=>?_⟩
      have hr:=au he h1
      generalize hu:Act.eval ⟨tmps,[]⟩ x=u at hr
      obtain ⟨pl,wC,hp,bE⟩:=iM hc hH
      obtain ⟨vs,kK,cJ⟩:=bZ bE
      cases hr with
      | p _ bw =>
       rw[hp] at bw;cases bw
       obtain ⟨z,hz,hR⟩:=kK.get fO
       refine ⟨z,?_,hR⟩
       have:=cJ.get _ _ hz
       simp only[execOp,hu,Instr.loadAt,Instr.sureAddr,Sem.run_bind,Sem.run_pure,Result.andThen_ok,loadVar,eQ t w d e2,ha,zal,zcp]
       simp[Go.load,Sem.run,this]
     ·cases hh
    ·cases hh
   ·rename_i hg
    have ha:im (some d)=true:=by
     rcases jw e2 with ⟨h1,h2⟩|⟨h1,h2⟩
     ·exact h2
     ·rw[h1] at hg;cases hg
    obtain ⟨cs,hc,hle,hh⟩:=jy hh
    refine ⟨_,hh,λμ B w tmps d' ty pos af g hH he=>?_⟩
    have hr:=au he h1
    generalize hu:Act.eval ⟨tmps,[]⟩ x=u at hr
    obtain ⟨pl,wC,hp,bE⟩:=iM hc hH
    obtain ⟨vs,kK,cJ⟩:=bZ bE
    cases hr with
    | p _ bw =>
     rw[hp] at bw;cases bw
     have hl:=kK.len
     refine ⟨.agg ⟨(vs.drop off).take inf.size⟩,?_,.a ((kK.drop off).take _) λu hu=>cJ.one u (zbg (zbf hu))⟩
     simp only[execOp,hu,Instr.loadAt,Instr.sureAddr,Sem.run_bind,Sem.run_pure,Result.andThen_ok,loadVar,eQ t w d e2,ha,zcf,aF e1,bP cJ (off:=off) (n:=inf.size) (by simp only at hle;omega)]
  ·cases hh
 ·cases hh
theorem RM.len:∀ {l:O (V×Nat×V)} {m:O MapEntry},RM μ l m->l.length=m.length
 | _,_,.nil=>rfl
 | _,_,.cons _ _ _ t=>by simp[t.len]
theorem dZ {o ck B:Nat} {es:O (V×Nat×V)} {w:uC} (hg:h.get o=some (.m es ck)) (hH:HR μ B h.get w):∃ pl ms,μ o=some pl/\w.heap[pl.b]?=some (.map ⟨ms⟩ ck)/\RM μ es ms:=by
 obtain ⟨pl,h1,ms,h2,h3,_⟩:=hH.ob o _ hg
 exact ⟨pl,ms,h1,h2,h3⟩
theorem uj (hT:bA P T) {x:uG} {xs:uD uG} {ts:uD uE} {t:Nat} {l:O Nat} {i:TI} {k:V->X S1} (oh:xs.toList=[x]) (iu:ts.toList=t::l) (hi:T.get t=some i)
  (hh:(aL env x λx=>tR i.k h x k)=.v r):∃ v,k v=.v r/\nZ P env h (.call ⟨.builtin .len,xs,ts⟩) v:=by
 obtain ⟨a,h1,hq⟩:=az hh
 clear hh
 obtain ⟨inf,d,e1,e2,rfl⟩:=ti hT hi
 obtain ⟨xs⟩:=xs
 obtain ⟨ts⟩:=ts
 simp only at oh iu
 subst oh
 subst iu
 have fK:(⟨t::l⟩:uD uE)[0]?=some t:=rfl
 have vg:∀ {tmps:uD uB} {u:uB},Act.eval ⟨tmps,[]⟩ x=u->((⟨[x]⟩:uD uG).map (Act.eval ⟨tmps,[]⟩))[0]?=some u:=λe=>by simp[e]
 unfold tR at hq
 simp only at hq
 split at hq
 ·split at hq
  ·rename_i hk
   have:=cD hk
   subst this
   rw[gk] at hq
   refine ⟨_,hq,λμ B w tmps d' ty pos af g hH he=>?_⟩
   have hr:=au he h1
   generalize hu:Act.eval ⟨tmps,[]⟩ x=u at hr
   cases hr with
   | s bs =>
    refine ⟨.int .i64 (bs.length:Int),?_,?_⟩
    ·simp only[execOp,resolve,Sem.run_bind,Sem.run_pure,Result.andThen_ok,invoke,builtin,Builtin.len_,fK,vg hu,run_underlying e2];rfl
    ·simp only[zbx,zbd];exact .c _
  ·cases hq
 ·split at hq
  ·rename_i hk
   obtain ⟨rfl,_⟩:=bT hk
   refine ⟨_,hq,λμ B w tmps d' ty pos af g hH he=>?_⟩
   have hr:=au he h1
   generalize hu:Act.eval ⟨tmps,[]⟩ x=u at hr
   cases hr with
   | l=>exact ⟨_,by simp only[execOp,resolve,Sem.run_bind,Sem.run_pure,Result.andThen_ok,invoke,builtin,Builtin.len_,fK,vg hu,run_underlying e2];rfl,.c _⟩
  ·cases hq
 ·split at hq
  ·rename_i hk
   obtain ⟨rfl,_⟩:=bT hk
   refine ⟨_,hq,λμ B w tmps d' ty pos af g hH he=>?_⟩
   have hr:=au he h1
   generalize hu:Act.eval ⟨tmps,[]⟩ x=u at hr
   cases hr
   exact ⟨.int .i64 0,by simp only[execOp,resolve,Sem.run_bind,Sem.run_pure,Result.andThen_ok,invoke,builtin,Builtin.len_,fK,vg hu,run_underlying e2];rfl,.c _⟩
  ·cases hq
 ·split at hq
  ·rename_i hk
   obtain ⟨rfl,_⟩:=bT hk
   refine ⟨_,hq,λμ B w tmps d' ty pos af g hH he=>?_⟩
   have hr:=au he h1
   generalize hu:Act.eval ⟨tmps,[]⟩ x=u at hr
   cases hr
   exact ⟨.int .i64 0,by simp only[execOp,resolve,Sem.run_bind,Sem.run_pure,Result.andThen_ok,invoke,builtin,Builtin.len_,fK,vg hu,run_underlying e2];rfl,.c _⟩
  ·cases hq
 ·split at hq
  ·rename_i hk
   obtain ⟨rfl,_⟩:=gX hk
   refine ⟨_,hq,λμ B w tmps d' ty pos af g hH he=>?_⟩
   have hr:=au he h1
   generalize hu:Act.eval ⟨tmps,[]⟩ x=u at hr
   cases hr
   exact ⟨.int .i64 0,by simp only[execOp,resolve,Sem.run_bind,Sem.run_pure,Result.andThen_ok,invoke,builtin,Builtin.len_,fK,vg hu,run_underlying e2];rfl,.c _⟩
  ·cases hq
 ·split at hq
  ·rename_i hk
   obtain ⟨rfl,_⟩:=gX hk
   split at hq
   ·rename_i es ck hg
    rw[gk] at hq
    refine ⟨_,hq,λμ B w tmps d' ty pos af g hH he=>?_⟩
    have hr:=au he h1
    generalize hu:Act.eval ⟨tmps,[]⟩ x=u at hr
    obtain ⟨pl,ms,hp,hm,fh⟩:=dZ hg hH
    cases hr with
    | m bw =>
     rw[hp] at bw;cases bw
     refine ⟨.int .i64 (ms.length:Int),?_,?_⟩
     ·simp only[execOp,resolve,Sem.run_bind,Sem.run_pure,Result.andThen_ok,invoke,builtin,Builtin.len_,fK,vg hu,run_underlying e2];simp[getObj,Sem.run,hm,goInt]
     ·rw[fh.len,zbd];exact .c _
   ·cases hq
  ·cases hq
 ·cases hq
theorem wD:∀ {cs:O V} {k:O Nat->X S1},oQ.bs cs k=.v r->∃ bs:O uA,k (bs.map UInt8.toNat)=.v r/\∀ μ us,Rs μ cs us->us=bs.map (λb=>.int .u8 (b.toNat:Int))
 | [],k,hh=>⟨[],hh,λμ us hs=>by cases hs;rfl⟩
 | c::cs,k,hh=>by
  unfold oQ.bs zA at hh
  split at hh
  ·rename_i n
   split at hh
   ·rename_i hn
    have hn:=zac hn
    obtain ⟨bs,h1,h2⟩:=wD hh
    have hb:(UInt8.ofNat n).toNat=n:=by simp;omega
    refine ⟨UInt8.ofNat n::bs,by rw[zcj,hb];exact h1,λμ us hs=>?_⟩
    cases hs with
    | cons hc ht =>
     cases hc
     rw[h2 μ _ ht,zcj,hb]
     rfl
   ·cases hh
  ·cases hh
theorem po {sz:Nat} {x:V} {k:Nat->O V->X S1} (hh:src h sz x k=.v r):(∃ l:O Nat,x=.s l/\sz=1/\k l.length (l.map λb=>.c (.int .u8 (.ofNat b)))=.v r)∨((x=.c (.slice none 0 0)∨x=.z)/\k 0 []=.v r) ∨
  ∃ o off n c cs,x=.l o off n c/\row h o=some cs/\off+n*sz<=cs.length/\k n ((cs.drop off).take (n*sz))=.v r:=by
 unfold src at hh
 split at hh
 ·rename_i l
  split at hh
  ·rename_i hs
   rw[dK (f:=λb=>V.c (.int .u8 (.ofNat b))) (λ_ _=>rfl),gk,zbd] at hh
   exact .inl ⟨l,rfl,zae hs,hh⟩
  ·cases hh
 ·exact .inr (.inl ⟨.inl rfl,hh⟩)
 ·exact .inr (.inl ⟨.inr rfl,hh⟩)
 ·rename_i o off n c
  obtain ⟨cs,h1,h2,h3⟩:=jy hh
  exact .inr (.inr ⟨o,off,n,c,cs,rfl,h1,h2,h3⟩)
 ·cases hh
theorem sG (hT:bA P T) {e:Nat} (hu:xr T e=true):P.underlying e=some (.int .u8):=by
 unfold xr at hu
 split at hu
 ·rename_i i hi
  obtain ⟨inf,d,e1,e2,rfl⟩:=ti hT hi
  split at hu
  ·rename_i hk;rw[e2,gY hk]
  ·cases hu
 ·cases hu
theorem uk (hT:bA P T) {s t e:Nat} (hs:P.underlying s=some (.slice e)) (zD:P.underlying e=some (.int .u8)) (ht:P.underlying t=some .string) {x:uG} {k:V->X S1} (hh:(aL env x λx=>oQ h x k)=.v r):∃ v,k v=.v r/\nZ P env h (.convert s t x) v:=by
 obtain ⟨a,h1,hq⟩:=az hh
 clear hh
 unfold oQ at hq
 split at hq
 ·cases hq
 rename_i yB
 rcases po hq with ⟨l,rfl,_,_⟩|⟨hz,hq⟩|⟨o,off,n,c,cs,rfl,bE,hle,hq⟩
 ·exact absurd rfl (yB l)
 ·refine ⟨_,hq,λμ B w tmps d' ty pos af g hH he=>?_⟩
  have hr:=au he h1
  generalize hu:Act.eval ⟨tmps,[]⟩ x=u at hr
  refine ⟨.string ⟨⟨[]⟩⟩,?_,.s []⟩
  rcases hz with rfl|rfl<;>cases hr<;>simp only[execOp,hu,convert,Sem.run_bind,run_underlying hs,run_underlying ht,run_underlying zD,Result.andThen_ok]<;>rfl
 ·obtain ⟨bs,hk,yC⟩:=wD hq
  refine ⟨_,hk,λμ B w tmps d' ty pos af g hH he=>?_⟩
  have hr:=au he h1
  generalize hu:Act.eval ⟨tmps,[]⟩ x=u at hr
  obtain ⟨pl,wC,hp,hR⟩:=iM bE hH
  obtain ⟨vs,kK,cJ⟩:=bZ hR
  cases hr with
  | l _ _ _ kc bw lG hc =>
   rw[hp] at bw;cases bw
   have hl:=kK.len
   have hb:=yC μ _ ((kK.drop off).take (n*1))
   have hlen:bs.length=n:=by
    have:=zao List.length hb
    simp only[zbx,zco,zch] at this
    omega
   refine ⟨.string ⟨⟨bs⟩⟩,?_,.s bs⟩
   have yD:=bP (P:=P) cJ (off:=off) (n:=n) (by omega)
   have aD:=eN (P:=P) (w:=w) (A:=some ⟨pl.b,pl.base+off,none⟩) (c:=kc) (l:=bs) (λe=>by cases e) (λa ea=>by
    cases ea
    rw[hlen,yD,←hb]
    simp)
   rw[hlen] at aD
   simp only[execOp,hu,convert,Sem.run_bind,run_underlying hs,run_underlying ht,run_underlying zD,Result.andThen_ok]
   rw[aD]
   rfl
end rd
section rd
variable {P:uF} {T:Tr TI} {r:S1} {μ:Mp} {env:Tr V} {tmps:uD uB} {h:Tr Ob}
def Eo (env:Tr V):Option uG->Option V->Prop
 | none,none=>True
 | some x,some v=>ev env x=some v
 | _,_=>False
theorem pq {x:J uG} {k:J V->X S1} (hh:sr env x k=.v r):∃ v,Eo env x v/\k v=.v r:=by
 unfold sr at hh
 split at hh
 ·exact ⟨none,trivial,hh⟩
 ·obtain ⟨v,h1,h2⟩:=az hh
  exact ⟨some v,h1,h2⟩
theorem bg {j:IntKind} {a y:Nat} (c:BoundsCode) (h:a<=y) (w:uC):(Instr.sliceBound (.int j (a:Int)) y c).run P w=.ok a w:=by
 unfold Instr.sliceBound
 have:(0:Int)<=(a:Int)/\(a:Int)<=(y:Int):=by omega
 simp only[asIntOf,Sem.run_bind,Sem.run_pure,Result.andThen_ok,zam this,zcn]
theorem pr {x:J uG} {v:J V} {wE a:Nat} (he:ER μ env tmps) (hx:Eo env x v) (ha:gO v wE=some a):(x=none/\a=wE)∨∃ o j,x=some o/\Act.eval ⟨tmps,[]⟩ o=.int j (a:Int):=by
 cases x with
 | none =>
  cases v with
  | none=>cases ha;exact .inl ⟨rfl,rfl⟩
  | some v=>cases hx
 | some o =>
  cases v with
  | none=>cases hx
  | some v =>
   obtain ⟨j,hj⟩:=eW ha (au he hx)
   exact .inr ⟨o,j,rfl,hj⟩
theorem bt {b:Bool} {len cap x y z:Nat} {lo hi mx:J uG} {vl vh vm:J V} (he:ER μ env tmps) (h1:Eo env lo vl) (h2:Eo env hi vh) (h3:Eo env mx vm)
  (e1:gO vl 0=some x) (e2:gO vh len=some y) (e3:(vm=none/\z=cap)∨(∃ q,vm=some q/\qu q=some z/\vh≠none)) (yE:x<=y) (xy:y<=z) (hz:z<=cap) (w:uC) :
  (Instr.sliceBounds b len cap (lo.map (Act.eval ⟨tmps,[]⟩)) (hi.map (Act.eval ⟨tmps,[]⟩)) (mx.map (Act.eval ⟨tmps,[]⟩))).run P w=.ok (x,y,z) w:=by
 have k1:=pr he h1 e1
 have k2:=pr he h2 e2
 have k3:(mx=none/\z=cap)∨∃ o j,mx=some o/\Act.eval ⟨tmps,[]⟩ o=.int j (z:Int)/\hi≠none:=by
  rcases e3 with ⟨e,ez⟩|⟨q,e,eq,hn⟩
  ·subst e
   cases mx with
   | none=>exact .inl ⟨rfl,ez⟩
   | some o=>cases h3
  ·subst e
   cases mx with
   | none=>cases h3
   | some o =>
    obtain ⟨j,hj⟩:=eW eq (au he h3)
    refine .inr ⟨o,j,rfl,hj,λe=>?_⟩
    subst e
    cases vh with
    | none=>exact hn rfl
    | some _=>cases h2
 unfold Instr.sliceBounds
 rcases k3 with ⟨rfl,rfl⟩|⟨o3,j3,rfl,q3,aN⟩
 ·rcases k2 with ⟨rfl,rfl⟩|⟨o2,j2,rfl,q2⟩<;>rcases k1 with ⟨rfl,rfl⟩|⟨o1,j1,rfl,q1⟩ <;>
   first
   | simp only[Option.map_none,Option.map_some,q1,q2,Sem.run_bind,Sem.run_pure,Result.andThen_ok,bg _ xy,bg _ yE]
   | simp only[Option.map_none,Option.map_some,q2,Sem.run_bind,Sem.run_pure,Result.andThen_ok,bg _ xy]
   | simp only[Option.map_none,Option.map_some,q1,Sem.run_bind,Sem.run_pure,Result.andThen_ok,bg _ yE]
   | simp only[Option.map_none,Option.map_some,Sem.run_bind,Sem.run_pure,Result.andThen_ok]
 ·rcases k2 with ⟨rfl,rfl⟩|⟨o2,j2,rfl,q2⟩
  ·exact absurd rfl aN
  ·rcases k1 with ⟨rfl,rfl⟩|⟨o1,j1,rfl,q1⟩ <;>
   first
   | simp only[Option.map_none,Option.map_some,q1,q2,q3,Sem.run_bind,Sem.run_pure,Result.andThen_ok,bg _ hz,bg _ xy,bg _ yE]
   | simp only[Option.map_none,Option.map_some,q2,q3,Sem.run_bind,Sem.run_pure,Result.andThen_ok,bg _ hz,bg _ xy]
theorem lJ {o off n ez b B kc:Nat} {c:J Nat} {w:uC} {pl:Pl} (hb:qX h o off n ez b c=true) (hH:HR μ B h.get w) (hp:μ o=some pl) (hn:n<=kc) (hc:c=some kc∨(c=none/\off+kc*pl.sz=pl.ext)):b<=kc/\(c=none->ez=pl.sz):=by
 unfold qX at hb
 rcases hc with rfl|⟨rfl,hx⟩
 ·exact ⟨zac hb,λe=>by cases e⟩
 ·simp only at hb
  split at hb
  ·rename_i ty sz cs hg
   split at hb
   ·rename_i he
    have he:=zae he
    obtain ⟨pl',q1,q2,pn,fz,pre,vs,post,_,_,_,q3,q4,_⟩:=hH.ob o _ hg
    rw[hp] at q1;cases q1
    have zE:ez=pl.sz:=by rw[q2,he]
    refine ⟨?_,λ_=>zE⟩
    split at hb
    ·rename_i h1;have:=zac h1;omega
    ·split at hb
     ·rename_i h1
      have h1:=zac h1
      have h2:=zac hb
      have:=q4.len
      rw[zE] at h1 h2
      have:off+b*pl.sz<=off+kc*pl.sz:=by omega
      exact Nat.le_of_mul_le_mul_right (by omega) (show 0<pl.sz by omega)
     ·cases hb
   ·cases hb
  ·cases hb
theorem sH {o off a b m ez:Nat} {k:V->X S1} (hh:xq o off a b m ez k=.v r) (cE:a<=b) (vi:b<=m):∃ v,k v=.v r/\∀ μ pl,μ o=some pl->R μ v (.slice (if m=a then some ⟨pl.b,pl.base+off,none⟩ else some (Addr.add ⟨pl.b,pl.base+off,none⟩ (a*ez))) (b-a) (m-a)):=by
 unfold xq at hh
 split at hh
 ·rename_i vj
  have vj:=zae vj
  refine ⟨_,hh,λμ pl hp=>?_⟩
  rw[zam vj]
  have e1:b-a=0:=by omega
  have e2:m-a=0:=by omega
  rw[e1,e2]
  exact .l off 0 _ 0 hp (zab _) (.inl rfl)
 ·rename_i vj
  have aN:¬ m=a:=λe=>by subst e;rw[zbv] at vj;cases vj
  rw[aB,aB,aB] at hh
  refine ⟨_,hh,λμ pl hp=>?_⟩
  rw[zaj aN,a8,zay]
  exact .l _ _ _ (m-a) hp (by omega) (.inl rfl)
theorem sI {t e:Nat} {ie:TypeInfo} (hu:(P.underlying t=some (.slice e))∨∃ n,P.underlying t=some (.array n e)) (aX:P.info? e=some ie) {o off n:Nat} {c:J Nat} {lo hi mx:J uG} {vl vh vm:J V} {k:V->X S1}
  (h2:Eo env lo vl) (h3:Eo env hi vh) (h4:Eo env mx vm) (hh:qY h ie.size o off n c vl vh vm k=.v r) :
  ∃ v,k v=.v r/\∀ μ B w tmps pl kc,HR μ B h.get w->ER μ env tmps->μ o=some pl->n<=kc->(c=some kc∨(c=none/\off+kc*pl.sz=pl.ext)) ->
   ∃ l b m,l<=b/\b<=m/\m<=kc/\(∀ bb,(Instr.sliceBounds bb n kc (lo.map (Act.eval ⟨tmps,[]⟩)) (hi.map (Act.eval ⟨tmps,[]⟩)) (mx.map (Act.eval ⟨tmps,[]⟩))).run P w=.ok (l,b,m) w) /\
    R μ v (.slice (if m=l then some ⟨pl.b,pl.base+off,none⟩ else some (Addr.add ⟨pl.b,pl.base+off,none⟩ (l*ie.size))) (b-l) (m-l)):=by
 unfold qY at hh
 split at hh
 ·rename_i a ha
  split at hh
  ·rename_i b hb
   split at hh
   ·rename_i cE
    have cE:=zac cE
    split at hh
    ·split at hh
     ·rename_i ku
      split at hh
      ·rename_i c'
       obtain ⟨v,q1,q2⟩:=sH (b:=b) hh cE (zac ku)
       refine ⟨v,q1,λμ B w tmps pl kc hH he hp hn fO=>?_⟩
       rcases fO with fO|⟨fO,_⟩<;>cases fO
       have sJ:b<=c':=zac ku
       exact ⟨a,b,c',cE,sJ,zab _,λbb=>bt he h2 h3 h4 ha hb (.inl ⟨rfl,rfl⟩) cE sJ (zab _) w,q2 μ pl hp⟩
      ·split at hh
       ·rename_i hE
        have hE:=zae hE
        refine ⟨_,hh,λμ B w tmps pl kc hH he hp hn fO=>?_⟩
        obtain ⟨sJ,zF⟩:=lJ ku hH hp hn fO
        refine ⟨a,b,kc,cE,sJ,zab _,λbb=>bt he h2 h3 h4 ha hb (.inl ⟨rfl,rfl⟩) cE sJ (zab _) w,?_⟩
        subst hE
        rw[Nat.sub_self]
        split
        ·exact .z _ _ _
        ·rw[a8];exact .z _ _ _
       ·rename_i hE
        have aN:¬ a=b:=λe=>by subst e;rw[zbv] at hE;cases hE
        rw[aB,aB] at hh
        refine ⟨_,hh,λμ B w tmps pl kc hH he hp hn fO=>?_⟩
        obtain ⟨sJ,zF⟩:=lJ ku hH hp hn fO
        refine ⟨a,b,kc,cE,sJ,zab _,λbb=>bt he h2 h3 h4 ha hb (.inl ⟨rfl,rfl⟩) cE sJ (zab _) w,?_⟩
        rw[zaj (by omega),a8,zay]
        refine .l _ _ _ (kc-a) hp (by omega) (.inr ⟨rfl,?_⟩)
        rcases fO with fO|⟨_,fO⟩
        ·cases fO
        ·rw[zF rfl,←fO,Nat.sub_mul]
         have:a*pl.sz<=kc*pl.sz:=zbu _ (by omega)
         omega
     ·cases hh
    ·rename_i q
     split at hh
     ·cases hh
     ·split at hh
      ·rename_i m hm
       split at hh
       ·rename_i vi
        have vi:=zac vi
        split at hh
        ·rename_i ku
         obtain ⟨v,q1,q2⟩:=sH (b:=b) hh cE vi
         refine ⟨v,q1,λμ B w tmps pl kc hH he hp hn fO=>?_⟩
         obtain ⟨zG,_⟩:=lJ ku hH hp hn fO
         exact ⟨a,b,m,cE,vi,zG,λbb=>bt he h2 h3 h4 ha hb (.inr ⟨q,rfl,hm,by simp⟩) cE vi zG w,q2 μ pl hp⟩
        ·cases hh
       ·cases hh
      ·cases hh
   ·cases hh
  ·cases hh
 ·cases hh
theorem iN (bs:O uA) (a b:Nat):(ByteArray.mk ⟨bs⟩).extract a b=ByteArray.mk ⟨(bs.drop a).take (b-a)⟩:=(ByteArray.extract_mk bs a b).trans rfl
theorem pw (hT:bA P T) {t:Nat} {x:uG} {lo hi mx:J uG} {k:V->X S1} (hh:(aL env x λx=>sr env lo λlo=>sr env hi λhi=>sr env mx λmx=>yv T h t x lo hi mx k)=.v r):∃ v,k v=.v r/\nZ P env h (.slice t x lo hi mx) v:=by
 obtain ⟨a,h1,iO⟩:=az hh
 obtain ⟨vl,h2,sK⟩:=pq iO
 obtain ⟨vh,h3,zH⟩:=pq sK
 obtain ⟨vm,h4,hq⟩:=pq zH
 clear hh iO sK zH
 unfold yv at hq
 split at hq
 ·rename_i i fZ
  obtain ⟨inf,d,e1,e2,rfl⟩:=ti hT fZ
  split at hq
  ·rename_i hk
   have:=cD hk
   subst this
   split at hq
   ·rename_i l
    split at hq
    ·unfold wg at hq
     split at hq
     ·rename_i x1 ha
      split at hq
      ·rename_i x2 hb
       split at hq
       ·rename_i hle
        simp only[zaf] at hle
        have l1:=zac hle.1
        have l2:=zac hle.2
        rw[eT,eS] at hq
        refine ⟨_,hq,λμ B w tmps d' ty pos af g hH he=>?_⟩
        have hr:=au he h1
        generalize hu:Act.eval ⟨tmps,[]⟩ x=u at hr
        cases hr with
        | s bs =>
         have AE:mx=none:=by cases mx<;>first|rfl|cases h4
         subst AE
         have qO:=bt (P:=P) (b:=false) (len:=bs.length) (cap:=bs.length) (z:=bs.length) he h2 h3 h4 ha (by simpa using hb) (.inl ⟨rfl,rfl⟩) l1 (by simpa using l2) (zab _) w
         simp only[Option.map_none] at qO
         refine ⟨.string ⟨⟨(bs.drop x1).take (x2-x1)⟩⟩,?_,?_⟩
         ·have dh:(⟨⟨bs⟩⟩:ByteArray).size=bs.length:=by simp[ByteArray.size]
          simp only[execOp,hu,Instr.sliceAt,Sem.run_bind,run_underlying e2,Result.andThen_ok,Instr.slice,Option.map_none,Option.isSome_none,zal,zcp,Sem.run_pure,dh,qO,iN]
         ·rw[←List.map_drop,←List.map_take];exact .s _
       ·cases hq
      ·cases hq
     ·cases hq
    ·cases hq
   ·cases hq
  ·rename_i e hk
   obtain ⟨rfl,ie,ue,aX,nE⟩:=bT hk
   split at hq
   ·rename_i o off n c
    simp only[gi,br aX] at hq
    obtain ⟨v,q1,q2⟩:=sI (P:=P) (.inl e2) aX h2 h3 h4 hq
    refine ⟨v,q1,λμ B w tmps d' ty pos af g hH he=>?_⟩
    have hr:=au he h1
    generalize hu:Act.eval ⟨tmps,[]⟩ x=u at hr
    cases hr with
    | l _ _ _ kc hp lG hc =>
     rename_i pl
     obtain ⟨l,b,m,b1,b2,b3,b4,b5⟩:=q2 μ B w tmps pl kc hH he hp lG hc
     refine ⟨_,?_,b5⟩
     simp only[execOp,hu,Instr.sliceAt,Sem.run_bind,run_underlying e2,Result.andThen_ok,Instr.slice,b4,aF aX,Sem.run_pure,Option.map_some]
   ·split at hq
    ·split at hq
     ·rename_i ha
      split at hq
      ·rename_i hb
       refine ⟨_,hq,λμ B w tmps d' ty pos af g hH he=>?_⟩
       have hr:=au he h1
       generalize hu:Act.eval ⟨tmps,[]⟩ x=u at hr
       cases hr
       refine ⟨.slice none 0 0,?_,.c _⟩
       have qO:=bt (P:=P) (b:=true) (len:=0) (cap:=0) (z:=0) he h2 h3 h4 ha hb (.inl ⟨rfl,rfl⟩) (zab _) (zab _) (zab _) w
       simp only[execOp,hu,Instr.sliceAt,Sem.run_bind,run_underlying e2,Result.andThen_ok,Instr.slice,qO,aF aX,Sem.run_pure,zcf]
      ·cases hq
     ·cases hq
    ·cases hq
   ·split at hq
    ·split at hq
     ·rename_i ha
      split at hq
      ·rename_i hb
       refine ⟨_,hq,λμ B w tmps d' ty pos af g hH he=>?_⟩
       have hr:=au he h1
       generalize hu:Act.eval ⟨tmps,[]⟩ x=u at hr
       cases hr with
       | z bb oo kk =>
       refine ⟨_,?_,.z bb (if kk=0 then oo else oo+0) kk⟩
       have qO:=bt (P:=P) (b:=true) (len:=0) (cap:=kk) (z:=kk) he h2 h3 h4 ha hb (.inl ⟨rfl,rfl⟩) (zab _) (zba _) (zab _) w
       simp only[execOp,hu,Instr.sliceAt,Sem.run_bind,run_underlying e2,Result.andThen_ok,Instr.slice,qO,aF aX,Sem.run_pure,Option.map_some,Nat.zero_mul,a8,Nat.sub_zero]
       by_cases AF:kk=0<;>simp[AF]
      ·cases hq
     ·cases hq
    ·cases hq
   ·cases hq
  ·rename_i n e hk
   obtain ⟨rfl,ie,ue,aX,nE⟩:=mr hk
   split at hq
   ·rename_i o off
    simp only[gi,br aX] at hq
    obtain ⟨v,q1,q2⟩:=sI (P:=P) (.inr ⟨n,e2⟩) aX h2 h3 h4 hq
    refine ⟨v,q1,λμ B w tmps d' ty pos af g hH he=>?_⟩
    have hr:=au he h1
    generalize hu:Act.eval ⟨tmps,[]⟩ x=u at hr
    cases hr with
    | p _ hp =>
     rename_i pl
     obtain ⟨l,b,m,b1,b2,b3,b4,b5⟩:=q2 μ B w tmps pl n hH he hp (zab _) (.inl rfl)
     refine ⟨_,?_,b5⟩
     simp only[execOp,hu,Instr.sliceAt,Sem.run_bind,run_underlying e2,Result.andThen_ok,Instr.sureAddr,b4,aF aX,Sem.run_pure]
     congr 3
     split<;>rfl
   ·cases hq
  ·cases hq
 ·cases hq
end rd
section keys
variable {P:uF} {T:Tr TI} {r:S1} {μ:Mp} {env:Tr V} {tmps:uD uB} {h:Tr Ob}
inductive Key (P:uF) (t:Nat):V->Prop
 | i {j j':IntKind} (n:Int) (h:P.underlying t=some (.int j)):Key P t (.c (.int j' n))
 | s (l:List Nat) (h:P.underlying t=some .string):Key P t (.s l)
 | a {cs:List V} {fs:uD Field} {ks:List FK} (h:P.underlying t=some (.struct fs)) (hk:bu P t=some ks) (hf:fits ks cs=true):Key P t (.a cs)
theorem dw (hT:bA P T) {t:Nat} {x:V} (hk:gP T t x=true):Key P t x:=by
 unfold gP at hk
 split at hk
 ·rename_i i hi
  obtain ⟨inf,d,e1,e2,rfl⟩:=ti hT hi
  split at hk
  ·split at hk
   ·rename_i hj;exact .i _ (e2.trans (zao some (gY hj)))
   ·cases hk
  ·split at hk
   ·rename_i hj;exact .s _ (e2.trans (zao some (cD hj)))
   ·cases hk
  ·split at hk
   ·rename_i hj
    obtain ⟨F,h1,_,_⟩:=mu hj
    split at hk
    ·rename_i ks hks
     exact .a (e2.trans (zao some h1)) hks hk
    ·cases hk
   ·cases hk
  ·cases hk
 ·cases hk
theorem nF {t:Nat} {fs:uD Field} {ks:O FK} (hu:P.underlying t=some (.struct fs)) (hk:bu P t=some ks):bN P 0 fs.toList=some ks:=by
 unfold bu at hk
 rw[hu] at hk
 simp only at hk
 split at hk
 ·cases hk
 ·exact hk
theorem aT {t:Nat} {x:V} {u:uB} (hk:Key P t x) (hr:R μ x u) (b:Bool) (w:uC):(Instr.checkKey b 10000 t u).run P w=.ok () w:=by
 cases hk with
 | i n h =>
  cases hr
  have:∀ m j n,(Instr.checkKey b (m+1) t (.int j n)).run P w=.ok () w:=λm j n=>by simp[Instr.checkKey,run_underlying h]
  exact this 9999 _ _
 | s l h =>
  cases hr
  have:∀ m s,(Instr.checkKey b (m+1) t (.string s)).run P w=.ok () w:=λm s=>by simp[Instr.checkKey,run_underlying h]
  exact this 9999 _
 | a h hk hf =>
  rename_i cs fs ks
  cases hr with
  | a hs h1 =>
   rename_i vs
   show (Instr.checkKey b (9999+1) t (.agg ⟨vs⟩)).run P w=.ok () w
   have:=fP (P:=P) b 9998 w ⟨vs⟩ fs.toList 0 ks vs (nF h hk) (c7 hf hs) (λj v hv=>by simpa using hv)
   unfold Instr.checkKey
   simp only[Sem.run_bind,run_underlying h,Result.andThen_ok]
   rw[←Array.forIn_toList,show (9999:Nat)=9998+1 from rfl,this]
   rfl
theorem rm {j:IntKind} {n:Int} {b:uB} (h:tK (.int j n) b=some true):b=.int j n:=by
 cases b with
 | int k m =>
  unfold tK at h
  simp only at h
  split at h
  ·rename_i hj
   simp only[Option.some.injEq,zbm] at h
   rw[zaw hj,h]
  ·cases h
 | _=>cases h
theorem pz {t:Nat} {x y:V} {u z:uB} (hx:Key P t x) (hy:Key P t y) (hu:R μ x u) (hz:R μ y z) (he:jR x y=some true):z=u:=by
 have hb:∀ {ks:O FK} {us zs:O uB},fitAll ks us=true->fitAll ks zs=true->b8 us zs=true->zs=us:=by
  intro ks
  induction ks with
  | nil =>
   intro us zs h1 h2 h3
   cases us<;>cases zs<;>first|rfl|(cases h1;done)|(cases h2;done)
  | cons k ks ih =>
   intro us zs h1 h2 h3
   cases us with
   | nil=>cases h1
   | cons u us =>
    cases zs with
    | nil=>cases h2
    | cons z zs =>
     simp only[fitAll,zaf] at h1 h2
     simp only[b8,zaf] at h3
     rw[ih h1.2 h2.2 h3.2]
     congr 1
     replace h1:=h1.1
     replace h2:=h2.1
     replace h3:=h3.1
     cases k<;>cases u<;>simp[bm] at h1<;>cases z<;>simp[bm] at h2<;>simp[qK] at h3
     ·subst h1;subst h2;subst h3;rfl
     ·subst h3;rfl
     ·rename_i s s'
      obtain ⟨⟨s⟩⟩:=s
      obtain ⟨⟨s'⟩⟩:=s'
      rw[bc,bc] at h3
      subst h3;rfl
 cases hx with
 | i n h =>
  cases hu
  cases y with
  | c b =>
   have:=rm he
   subst this
   cases hz
   rfl
  | _=>cases he
 | s l h =>
  cases hu
  cases y with
  | s b =>
   cases hz
   simp only[jR,tL,Option.some.injEq,gW,beq_iff_eq] at he
   subst he
   rfl
  | _=>cases he
 | a h hk hf =>
  cases hu with
  | a hs _ =>
   simp only[jR] at he
   split at he
   ·rename_i ys
    cases hy with
    | a h' kT uo =>
     rw[hk] at kT;cases kT
     cases hz with
     | a wF _ =>
      have h1:=c7 hf hs
      have h2:=c7 uo wF
      have h3:=mq he hs wF
      rw[hb h1 h2 h3]
   ·cases he
theorem kv {t:Nat} {x y:V} {u z:uB} (hx:Key P t x) (hy:Key P t y) (hu:R μ x u) (hz:R μ y z) (he:jR x y=some true):Instr.sameBits 10000 z u=true:=by
 rw[pz hx hy hu hz he]
 cases hx with
 | i n h=>cases hu;simp[Instr.sameBits]
 | s l h=>cases hu;exact eO (k:=.s) rfl _
 | a h hk hf =>
  cases hu with
  | a hs _ =>
   have:=dW (c7 hf hs) 9999
   show Instr.sameBits (9999+1) _ _=true
   simp only[Instr.sameBits]
   simpa using this
end keys
section find
variable {P:uF} {T:Tr TI} {r:S1} {μ:Mp} {env:Tr V} {tmps:uD uB} {h:Tr Ob}
noncomputable def fx (x:V):List (V×Nat×V)->Option Nat
 | []=>none
 | (y,_,_)::es=>match jR x y with
  | some true=>some 0
  | _=>(fx x es).map (·+1)
theorem sL {x:V}:∀ {es:O (V×Nat×V)} {i:Nat},fx x es=some i->∃ y b v,es[i]?=some (y,b,v)/\jR x y=some true
 | [],_,h=>by cases h
 | (y,b,v)::es,i,h=>by
  unfold fx at h
  split at h
  ·rename_i hy;cases h;exact ⟨y,b,v,rfl,hy⟩
  ·cases hf:fx x es with
   | none=>rw[hf] at h;cases h
   | some j =>
    rw[hf] at h
    cases h
    obtain ⟨y',b',v',h1,h2⟩:=sL hf
    exact ⟨y',b',v',by simpa using h1,h2⟩
theorem eX {x:V}:∀ {es:O (V×Nat×V)},kn x es=(fx x es).bind λi=>(es[i]?).map λe=>e.2
 | []=>rfl
 | (y,b,v)::es=>by
  unfold kn fx
  cases hq:jR x y with
  | none=>simp only[];rw[eX];cases fx x es<;>simp
  | some q=>cases q with
   | true=>rfl
   | false=>simp only[];rw[eX];cases fx x es<;>simp
theorem jz {β:Type} {x v:V} {ck:Nat}:∀ {es:List (V×Nat×V)} {k:List (V×Nat×V)->Nat->X β},oM x v ck es k=match fx x es with
  | some i=>k (es.modify i λe=>(x,e.2.1,v)) ck
  | none=>k (es++[(x,ck,v)]) (ck+1)
 | [],k=>by unfold oM fx;exact aB _ _
 | (y,b,u)::es,k=>by
  unfold oM fx
  cases hq:jR x y with
  | none=>simp only[];rw[jz];cases fx x es<;>rfl
  | some q=>cases q with
   | true=>rfl
   | false=>simp only[];rw[jz];cases fx x es<;>rfl
theorem jA {β:Type} {x:V}:∀ {es:List (V×Nat×V)} {k:List (V×Nat×V)->X β},qV x es k=match fx x es with
  | some i=>k (es.eraseIdx i)
  | none=>k es
 | [],k=>rfl
 | (y,b,u)::es,k=>by
  unfold qV fx
  cases hq:jR x y with
  | none=>simp only[];rw[jA];cases fx x es<;>rfl
  | some q=>cases q with
   | true=>rfl
   | false=>simp only[];rw[jA];cases fx x es<;>rfl
theorem RM.get:∀ {l:O (V×Nat×V)} {m:O MapEntry},RM μ l m->∀ {i:Nat} {y v:V} {b:Nat},l[i]?=some (y,b,v)->∃ e,m[i]?=some e/\R μ y e.key/\R μ v e.val/\e.born=b
 | _,_,.nil,_,_,_,_,h=>by simp at h
 | _,_,.cons h1 h2 h3 t,i,y,v,b,e=>by
  cases i with
  | zero=>simp at e;obtain ⟨rfl,rfl,rfl⟩:=e;exact ⟨_,rfl,h1,h2,h3⟩
  | succ i=>simp at e;simpa using t.get e
theorem dx {t b:Nat} {x y v:V} {es:O (V×Nat×V)} (hk:c5 T t x ((y,b,v)::es)=true):gP T t y=true/\(∃ q,jR x y=some q)/\c5 T t x es=true:=by
 unfold c5 at hk
 split at hk
 ·rename_i h1
  split at hk
  ·rename_i q h2;exact ⟨h1,⟨q,h2⟩,hk⟩
  ·cases hk
 ·cases hk
theorem pA {kd:TypeDesc} {t:Nat} {x:V} {u:uB} (hn:∀ y z q,gP T t y=true->jR x y=some q->R μ y z->Instr.sameNow kd u z=some q) :
  ∀ {es:O (V×Nat×V)} {ms:O MapEntry} (i:Nat),c5 T t x es=true->RM μ es ms->Instr.findNow kd u ms i=some ((fx x es).bind λj=>(ms[j]?).map λm=>(i+j,m.val))
 | _,_,i,hk,.nil=>rfl
 | _,_,i,hk,.cons h1 h2 h3 tl=>by
  obtain ⟨k1,⟨q,k2⟩,k3⟩:=dx hk
  have:=hn _ _ q k1 k2 h1
  unfold Instr.findNow fx
  rw[this,k2]
  cases q with
  | true=>simp
  | false =>
   simp only[]
   rw[pA hn (i+1) k3 tl]
   cases fx x _ with
   | none=>rfl
   | some j =>
    simp only[zat,Option.map_some,List.getElem?_cons_succ]
    congr 2
    funext m
    congr 1
    omega
theorem sM {t:Nat} {x:V} {u:uB} {w:uC} (hn:∀ y z q,gP T t y=true->jR x y=some q->R μ y z->(Op.equal t u z).run P w=.ok q w) :
  ∀ {es:O (V×Nat×V)} {ms:O MapEntry} (i:Nat),c5 T t x es=true->RM μ es ms->(Instr.findAsking t u ms i).run P w=.ok ((fx x es).bind λj=>(ms[j]?).map λm=>(i+j,m.val)) w
 | _,_,i,hk,.nil=>rfl
 | _,_,i,hk,.cons h1 h2 h3 tl=>by
  obtain ⟨k1,⟨q,k2⟩,k3⟩:=dx hk
  have:=hn _ _ q k1 k2 h1
  unfold Instr.findAsking fx
  simp only[Sem.run_bind,this,k2,Result.andThen_ok]
  cases q with
  | true=>simp
  | false =>
   simp only[zal,zcp]
   rw[sM hn (i+1) k3 tl]
   cases fx x _ with
   | none=>rfl
   | some j =>
    simp only[zat,Option.map_some,List.getElem?_cons_succ]
    congr 2
    funext m
    congr 1
    omega
theorem eY {t:Nat} {x:V} {es:O (V×Nat×V)} (hk:fS T t x es=true):gP T t x=true/\c5 T t x es=true:=by
 unfold fS at hk
 split at hk
 ·rename_i h;exact ⟨h,hk⟩
 ·cases hk
theorem pB {j:IntKind} {n:Int} {b:uB} {q:Bool} (h:tK (.int j n) b=some q):∃ m,b=.int j m/\q=(n==m):=by
 cases b with
 | int k m =>
  unfold tK at h
  simp only at h
  split at h
  ·rename_i hj
   simp only[Option.some.injEq] at h
   have:=zaw hj
   subst this
   exact ⟨m,rfl,by rw[←h];by_cases e:n=m<;>simp[e]⟩
  ·cases h
 | _=>cases h
theorem c8 (hT:bA P T) {t:Nat} {x:V} {u:uB} {es:O (V×Nat×V)} {ms:O MapEntry} (hk:fS T t x es=true) (hu:R μ x u) (hm:RM μ es ms) (w:uC) :
  (Instr.findKey t u ms).run P w=.ok ((fx x es).bind λi=>(ms[i]?).map λm=>(i,m.val)) w:=by
 obtain ⟨k1,k2⟩:=eY hk
 have hK:=dw hT k1
 unfold Instr.findKey
 cases hK with
 | i n h =>
  cases hu
  rename_i j j'
  have:=pA (T:=T) (μ:=μ) (kd:=.int j) (t:=t) (u:=.int j' n) (λy z q h1 h2 h3=>by
   cases y with
   | c b =>
    obtain ⟨m,rfl,rfl⟩:=pB h2
    cases h3
    simp[Instr.sameNow]
   | _=>cases h2) 0 k2 hm
  simp only[Sem.run_bind,run_underlying h,Result.andThen_ok,this,Sem.run_pure,zbd]
 | s l h =>
  cases hu with
  | s bs =>
   have:=pA (T:=T) (μ:=μ) (kd:=.string) (t:=t) (u:=.string ⟨⟨bs⟩⟩) (λy z q h1 h2 h3=>by
    cases y with
    | s b =>
     cases h3 with
     | s Bx =>
      simp only[jR,tL,Option.some.injEq,gW] at h2
      subst h2
      simp only[Instr.sameNow,Option.some.injEq]
      rw[beq_toListBytes,bc,bc]
    | _=>cases h2) 0 k2 hm
   simp only[Sem.run_bind,run_underlying h,Result.andThen_ok,this,Sem.run_pure,zbd]
 | a h vk hf =>
  cases hu with
  | a hs h1 =>
   rename_i cs fs ks vs
   have yF:=sM (T:=T) (μ:=μ) (P:=P) (t:=t) (u:=.agg ⟨vs⟩) (w:=w) (λy z q h1 h2 h3=>by
    have hy:=dw hT h1
    cases y with
    | a ys =>
     cases hy with
     | a h' kT uo =>
      rw[vk] at kT;cases kT
      cases h3 with
      | a wF _ =>
       have:=(qL (P:=P) vk (c7 hf hs) (c7 uo wF) w .eql (.const (.bool true)) (.const (.bool true))).2
       rw[mq h2 hs wF] at this
       exact this
    | _=>cases h2) 0 k2 hm
   have yG:Instr.findNow (.struct fs) (.agg ⟨vs⟩) ms 0=none∨ms=[]:=by
    cases ms with
    | nil=>exact .inr rfl
    | cons m ms=>exact .inl rfl
   rcases yG with h0|h0
   ·simp only[Sem.run_bind,run_underlying h,Result.andThen_ok,h0]
    rw[yF]
    simp
   ·subst h0
    cases hm
    simp[run_underlying h,Instr.findNow,fx]
theorem uq {v:V} {k:V->X S1} (hh:zk v k=.v r):(∀ l,v≠.t l)/\k v=.v r:=by
 unfold zk at hh
 split at hh
 ·cases hh
 ·rename_i h1;exact ⟨h1,hh⟩
theorem rn (hT:bA P T) {t:Nat} {x y:uG} {c:Bool} {k:V->X S1} (hh:(aL env x λx=>aL env y λy=>oP T h t x y c k)=.v r):∃ v,k v=.v r/\nZ P env h (.lookup t x y c) v:=by
 obtain ⟨a,h1,iO⟩:=az hh
 obtain ⟨b,h2,hq⟩:=az iO
 clear hh iO
 have mk:∀ {μ:Mp} {v:V} {u:uB} (q:Bool),R μ v u->R μ (if c=true then .t [v,cB q] else v) (if c=true then .tuple #[u,.bool q] else u):=fun {μ v u} q hr=>by
  cases c with
  | true=>exact .t (.cons hr (.cons (.c _) .nil))
  | false=>exact hr
 unfold oP at hq
 split at hq
 ·rename_i i hi
  obtain ⟨inf,d,e1,e2,rfl⟩:=ti hT hi
  split at hq
  ·rename_i kt et hk
   obtain ⟨rfl,ie,ue,aX,nE⟩:=gX hk
   split at hq
   ·rename_i o
    split at hq
    ·rename_i es ck hg
     split at hq
     ·rename_i hkok
      have hK:=dw hT (eY hkok).1
      rw[eX] at hq
      cases hf:fx b es with
      | some j =>
       obtain ⟨y',b',v',q1,q2⟩:=sL hf
       simp only[hf,zat,q1,Option.map_some] at hq
       have h9:k (if c=true then .t [v',cB true] else v')=.v r:=by cases c<;>exact hq
       refine ⟨_,h9,λμ B w tmps d' ty pos af g hH he=>?_⟩
       have nd:=au he h1
       have pC:=au he h2
       generalize nG:Act.eval ⟨tmps,[]⟩ x=u1 at nd
       generalize kH:Act.eval ⟨tmps,[]⟩ y=u2 at pC
       obtain ⟨pl,ms,hp,hm,fh⟩:=dZ hg hH
       obtain ⟨e,g1,g2,g3,g4⟩:=fh.get q1
       cases nd with
       | m bw =>
        rw[hp] at bw;cases bw
        refine ⟨_,?_,mk true g3⟩
        have gg:=c8 hT hkok pC fh w
        simp only[hf,zat,g1,Option.map_some] at gg
        have aP:(getObj pl.b).run P w=.ok (.map ⟨ms⟩ ck) w:=by simp[getObj,Sem.run,hm]
        simp only[execOp,nG,kH,Instr.lookup,Sem.run_bind,run_underlying e2,Result.andThen_ok,aP,Sem.run_pure,aT hK pC,gg]
      | none =>
       simp only[hf,zci] at hq
       obtain ⟨z1,hq⟩:=uq hq
       obtain ⟨zI,z,z2,z3,z4,_⟩:=eU z1
       have h9:k (if c=true then .t [kI P et,cB false] else kI P et)=.v r:=by cases c<;>exact hq
       refine ⟨_,h9,λμ B w tmps d' ty pos af g hH he=>?_⟩
       have nd:=au he h1
       have pC:=au he h2
       generalize nG:Act.eval ⟨tmps,[]⟩ x=u1 at nd
       generalize kH:Act.eval ⟨tmps,[]⟩ y=u2 at pC
       obtain ⟨pl,ms,hp,hm,fh⟩:=dZ hg hH
       cases nd with
       | m bw =>
        rw[hp] at bw;cases bw
        refine ⟨_,?_,mk false (z4▸dY μ z)⟩
        have gg:=c8 hT hkok pC fh w
        simp only[hf,zci] at gg
        have aP:(getObj pl.b).run P w=.ok (.map ⟨ms⟩ ck) w:=by simp[getObj,Sem.run,hm]
        simp only[execOp,nG,kH,Instr.lookup,Sem.run_bind,run_underlying e2,Result.andThen_ok,aP,Sem.run_pure,aT hK pC,gg,bM (t:=et) z2 z3]
     ·cases hq
    ·cases hq
   ·split at hq
    ·rename_i sN
     have hK:=dw hT sN
     obtain ⟨z1,hq⟩:=uq hq
     obtain ⟨zI,z,z2,z3,z4,_⟩:=eU z1
     have h9:k (if c=true then .t [kI P et,cB false] else kI P et)=.v r:=by cases c<;>exact hq
     refine ⟨_,h9,λμ B w tmps d' ty pos af g hH he=>?_⟩
     have nd:=au he h1
     have pC:=au he h2
     generalize nG:Act.eval ⟨tmps,[]⟩ x=u1 at nd
     generalize kH:Act.eval ⟨tmps,[]⟩ y=u2 at pC
     cases nd
     refine ⟨_,?_,mk false (z4▸dY μ z)⟩
     have gg:(Instr.findKey kt u2 []).run P w=.ok none w:=c8 hT (es:=[]) (by unfold fS;rw[sN];rfl) pC .nil w
     simp only[execOp,nG,kH,Instr.lookup,Sem.run_bind,run_underlying e2,Result.andThen_ok,Sem.run_pure,aT hK pC,gg,bM (t:=et) z2 z3]
    ·cases hq
   ·cases hq
  ·cases hq
 ·cases hq
end find
end Go.CI
namespace Go.CI
section cls
variable {P:uF} {T:Tr TI} {r:S1} {env:Tr V} {h:Tr Ob}
theorem rp (hT:bA P T) {s t:Nat} {x:uG} {g:Tr V->(V->X S1)->X S1} (ha:fy T s t x=.pu g) {k:V->X S1} (hg:g env k=.v r):∃ v,k v=.v r/\iK P env (.convert s t x) v:=by
 unfold fy at ha
 split at ha
 ·rename_i i hi
  split at ha
  ·split at ha
   ·split at ha
    ·split at ha<;>cases ha
    ·cases ha
   ·cases ha
  ·split at ha
   ·rename_i j hj
    obtain ⟨inf,d,e1,e2,rfl⟩:=ti hT hj
    split at ha
    ·split at ha<;>cases ha
    ·rename_i hk
     cases ha
     exact mv hT e1 e2 (λe he=>by subst he;have:=cD (P:=P) (d:=.slice e) hk;cases this) (λhe=>by subst he;cases hk) hg
    ·cases ha
   ·cases ha
  ·split at ha
   ·rename_i j hj
    obtain ⟨inf,d,e1,e2,rfl⟩:=ti hT hj
    split at ha
    ·rename_i jk hk
     cases ha
     exact mv hT e1 e2 (λe he=>by subst he;have:=gY (P:=P) (d:=.slice e) hk;cases this) (λhe=>by subst he;cases hk) hg
    ·cases ha
   ·cases ha
 ·cases ha
theorem rq (hT:bA P T) {s t:Nat} {x:uG} {g:Tr V->Tr Ob->(V->X S1)->X S1} (ha:fy T s t x=.rd g) {k:V->X S1} (hg:g env h k=.v r):∃ v,k v=.v r/\nZ P env h (.convert s t x) v:=by
 unfold fy at ha
 split at ha
 ·rename_i i hi
  obtain ⟨jx,d',zp,xj,rfl⟩:=ti hT hi
  split at ha
  ·split at ha
   ·split at ha
    ·split at ha<;>cases ha
    ·cases ha
   ·cases ha
  ·rename_i sN
   split at ha
   ·rename_i j hj
    obtain ⟨inf,d,e1,e2,rfl⟩:=ti hT hj
    split at ha
    ·rename_i e hk
     split at ha
     ·rename_i hu
      cases ha
      obtain ⟨rfl,_⟩:=bT hk
      exact uk hT e2 (sG hT hu) (xj.trans (zao some (cD sN))) hg
     ·cases ha
    ·cases ha
    ·cases ha
   ·cases ha
  ·split at ha
   ·split at ha<;>cases ha
   ·cases ha
 ·cases ha
theorem rr {ts:uD uE} {t:Nat} {l:O Nat} (h:ts.toList=t::l):ts[0]?=some t:=by obtain ⟨ts⟩:=ts;simp only at h;subst h;rfl
theorem ru (hT:bA P T) {b:Builtin} {xs:uD uG} {ts:uD uE} {g:Tr V->(V->X S1)->X S1} (ha:fw T b xs.toList ts.toList=.pu g) {k:V->X S1} (hg:g env k=.v r):∃ v,k v=.v r/\iK P env (.call ⟨.builtin b,xs,ts⟩) v:=by
 unfold fw at ha
 split at ha
 ·split at ha
  ·split at ha
   ·split at ha<;>cases ha
   ·cases ha
  ·cases ha
 ·split at ha
  ·rename_i t l iu
   split at ha
   ·rename_i i hi
    obtain ⟨inf,d,e1,e2,rfl⟩:=ti hT hi
    split at ha
    ·rename_i e hk
     cases ha
     obtain ⟨rfl,_⟩:=bT hk
     exact ui hg ⟨t,e,rr iu,e2⟩
    ·cases ha
   ·cases ha
  ·cases ha
 ·cases ha;exact sF (b:=true) hg
 ·cases ha;exact sF (b:=false) hg
 ·cases ha
theorem rv (hT:bA P T) {b:Builtin} {xs:uD uG} {ts:uD uE} {g:Tr V->Tr Ob->(V->X S1)->X S1} (ha:fw T b xs.toList ts.toList=.rd g) {k:V->X S1} (hg:g env h k=.v r):∃ v,k v=.v r/\nZ P env h (.call ⟨.builtin b,xs,ts⟩) v:=by
 unfold fw at ha
 split at ha
 ·split at ha
  ·rename_i x oh
   split at ha
   ·rename_i t l iu
    split at ha
    ·rename_i i hi
     cases ha
     exact uj hT oh iu hi hg
    ·cases ha
   ·cases ha
  ·cases ha
 ·split at ha
  ·split at ha
   ·split at ha<;>cases ha
   ·cases ha
  ·cases ha
 ·cases ha
 ·cases ha
 ·cases ha
theorem pD (hT:bA P T) {o:Op} {g:Tr V->(V->X S1)->X S1} (ha:act T o=.pu g) {k:V->X S1} (hg:g env k=.v r):∃ v,k v=.v r/\iK P env o v:=by
 unfold act at ha
 split at ha
 ·cases ha;obtain ⟨v,a,b,_⟩:=mo (P:=P) hg;exact ⟨v,a,b⟩
 ·cases ha;obtain ⟨v,a,_,b⟩:=mo (P:=P) hg;exact ⟨v,a,b⟩
 ·cases ha;exact rb hg
 ·cases ha;exact pj hT hg
 ·cases ha;exact tX hg
 ·cases ha;exact uf hT hg
 ·cases ha;exact wo hg
 ·exact rp hT ha hg
 ·split at ha
  ·rename_i hf;cases ha;exact re hf hg
  ·cases ha
 ·cases ha;exact nD hT hg
 ·cases ha;exact ph hT hg
 ·cases ha;exact ri hT hg
 ·cases ha;exact ug hT hg
 ·cases ha;exact tY hg
 all_goals first
  | (cases ha;done)
  | skip
 ·split at ha
  ·cases ha
  ·split at ha
   ·split at ha<;>cases ha
   ·cases ha
 ·split at ha
  ·split at ha<;>cases ha
  ·cases ha
 ·split at ha
  ·exact ru hT ha hg
  ·cases ha
  ·cases ha
 ·split at ha
  ·split at ha<;>cases ha
  ·cases ha
theorem jB (hT:bA P T) {o:Op} {g:Tr V->Tr Ob->(V->X S1)->X S1} (ha:act T o=.rd g) {k:V->X S1} (hg:g env h k=.v r):∃ v,k v=.v r/\nZ P env h o v:=by
 unfold act at ha
 split at ha
 case h_8=>exact rq hT ha hg
 all_goals first
  | (cases ha;done)
  | skip
 ·split at ha<;>cases ha
 ·cases ha;exact mw hT hg
 ·cases ha;exact pw hT hg
 ·cases ha;exact rn hT hg
 ·split at ha
  ·cases ha
  ·split at ha
   ·split at ha<;>cases ha
   ·cases ha
 ·split at ha
  ·split at ha<;>cases ha
  ·cases ha
 ·split at ha
  ·exact rv hT ha hg
  ·cases ha
  ·cases ha
 ·split at ha
  ·split at ha<;>cases ha
  ·cases ha
end cls
end Go.CI
namespace Go.CI
open Go.RowKit
open Go.Abs
section al
variable {P:uF} {T:Tr TI} {r:S1} {env:Tr V}
def pE (P:uF) (env:Tr V) (nx:Nat) (o:Op) (v:V) (ob:Ob):Prop :=
 ∀ μ B (h h':Hf) w tmps (d:Option Tmp) (ty:Nat) (pos:String) (af:uD Edge) (g:Option (Nat×Bool)),HR μ B h w->ER μ env tmps->μ nx=none->(∀ j,h' j=if j=nx then some ob else h j) ->
  ∃ u pl w',(execOp (Act.eval ⟨tmps,[]⟩) ⟨d,o,ty,pos,af,g⟩).run P w=.ok (.value u) w'/\R (μ.add nx pl) v u/\HR (μ.add nx pl) B h' w'/\Ev μ h w (μ.add nx pl) h' w' nx (nx+1)
theorem fF {μ:Mp} {B nx ty sz:Nat} {h h':Hf} {w w':uC} {cs:O V} {vs post:O uB} {fz:Nat×Nat} (hH:HR μ B h w) (hn:μ nx=none) (hh:∀ j,h' j=if j=nx then some (.c ty sz cs) else h j)
  (hw:w'.heap=w.heap.push (.cells ⟨vs++post⟩ ty fz)) (zJ:fz.2<=fz.1∨vs.length+post.length<=fz.1) (h1:w'.os=w.os) (h2:w'.tape=w.tape) (h3:w'.output=w.output) (hR:Rs μ cs vs) (ir:∀ u∈vs,u.oneCell'=true) :
  HR (μ.add nx ⟨w.heap.size,0,vs.length+post.length,sz⟩) B h' w'/\Ev μ h w (μ.add nx ⟨w.heap.size,0,vs.length+post.length,sz⟩) h' w' nx (nx+1):=by
 refine hH.make hn hh (λcs e=>by cases e) (by rw[hw];simp) rfl (by rw[hw];simp) (λb hb=>?_) h1 h2 h3 ⟨rfl,ty,fz,[],vs,post,?_,by simpa using zJ,rfl,rfl,hR.mono (Mp.gV hn),ir⟩
 ·rw[hw,Array.getElem?_push]
  rw[zaj (by omega)]
 ·rw[hw];simp
theorem kx {μ:Mp} {B nx ext sz:Nat} {h h':Hf} {w w':uC} {x:Ob} {y:Obj} (hH:HR μ B h w) (hn:μ nx=none) (hh:∀ j,h' j=if j=nx then some x else h j) (hx:∀ cs,x≠.k cs)
  (hw:w'.heap=w.heap.push y) (h1:w'.os=w.os) (h2:w'.tape=w.tape) (h3:w'.output=w.output) (iE:ju (μ.add nx ⟨w.heap.size,0,ext,sz⟩) ⟨w.heap.size,0,ext,sz⟩ w' x) :
  HR (μ.add nx ⟨w.heap.size,0,ext,sz⟩) B h' w'/\Ev μ h w (μ.add nx ⟨w.heap.size,0,ext,sz⟩) h' w' nx (nx+1):=by
 refine hH.make hn hh hx (by rw[hw];simp) rfl (by rw[hw];simp) (λb hb=>?_) h1 h2 h3 iE
 rw[hw,Array.getElem?_push]
 rw[zaj (by omega)]
theorem pF (hT:bA P T) {nx t:Nat} {k:V->Ob->X S1} (hh:lu T nx t k=.v r):∃ v ob,k v ob=.v r/\pE P env nx (.alloc t) v ob:=by
 unfold lu at hh
 split at hh
 ·rename_i i hi
  obtain ⟨inf,d,e1,e2,rfl⟩:=ti hT hi
  split at hh
  ·rename_i cs hc
   rw[aB] at hh
   obtain ⟨jx,z,z1,z2,z3,z4⟩:=dL hc
   refine ⟨_,_,hh,λμ B h h' w tmps d ty pos af g hH he hn hu=>?_⟩
   obtain ⟨c1,c2⟩:=bW hc (z3▸dY μ z)
   obtain ⟨a,b⟩:=fF (w':=w.alloc (.cells z.cells t)) (vs:=z.cells.toList) (post:=[]) hH hn hu (fz:=(0,0)) (by rw[zbr];rfl) (.inl (zab _)) rfl rfl rfl c1 c2
   refine ⟨.pointer (some ⟨w.heap.size,0,none⟩),_,_,?_,.p 0 Mp.add_same,a,b⟩
   simp[execOp,Instr.alloc,bM z1 z2,newVar,newRow]
  ·cases hh
 ·cases hh
theorem ur (hT:bA P T) {nx t:Nat} {x:uG} {k:V->Ob->X S1} (hh:(aL env x λx=>tS T nx t x k)=.v r):∃ v ob,k v ob=.v r/\pE P env nx (.box t x) v ob:=by
 obtain ⟨a,h1,hq⟩:=az hh
 clear hh
 unfold tS at hq
 split at hq
 ·rename_i i hi
  split at hq
  ·rename_i cs hc
   rw[aB] at hq
   refine ⟨_,_,hq,λμ B h h' w tmps d ty pos af g hH he hn hu=>?_⟩
   obtain ⟨c1,c2⟩:=bW hc (au he h1)
   obtain ⟨a,b⟩:=fF (w':=w.alloc (.cells (Act.eval ⟨tmps,[]⟩ x).cells t)) (vs:=(Act.eval ⟨tmps,[]⟩ x).cells.toList) (post:=[]) hH hn hu (fz:=(0,0)) (by rw[zbr];rfl) (.inl (zab _)) rfl rfl rfl c1 c2
   refine ⟨.pointer (some ⟨w.heap.size,0,none⟩),_,_,?_,.p 0 Mp.add_same,a,b⟩
   simp[execOp,Instr.box,newVar,newRow]
  ·cases hq
 ·cases hq
theorem bJ {α:Type} (z:O α):∀ n,(CI.rep z n).length=n*z.length
 | 0=>by simp[CI.rep]
 | n+1=>by rw[CI.rep,zbb,bJ z n,Nat.succ_mul];omega
theorem my {α:Type} (z:O α):∀ n i,i<n*z.length->(CI.rep z n)[i]?=z[i % z.length]?
 | 0,i,h=>by simp at h
 | n+1,i,h=>by
  rw[CI.rep]
  by_cases hi:i<z.length
  ·rw[zak hi,Nat.mod_eq_of_lt hi]
  ·rw[zav (by omega),my z n (i-z.length) (by rw[Nat.succ_mul] at h;omega)]
   congr 1
   exact (Nat.mod_eq_sub_mod (by omega)).symm
theorem dM (zero:uD uB) (n:Nat):(Array.range (n*zero.size)).map (λi=>zero[i % zero.size]!)=⟨CI.rep zero.toList n⟩:=by
 apply Array.ext_getElem?
 intro i
 by_cases hi:i<n*zero.size
 ·have h0:0<zero.size:=by
   rcases Nat.eq_zero_or_pos zero.size with h|h
   ·rw[h] at hi;simp at hi
   ·exact h
  have hm:i % zero.size<zero.size:=Nat.mod_lt _ h0
  have:=my zero.toList n i (by simpa using hi)
  simp only[zbo,this,zbz,zcc]
  simp[hi,getElem!_pos,hm]
 ·have e1:(CI.rep zero.toList n)[i]?=none:=by rw[zbn];rw[bJ];simpa using hi
  simp[e1,hi]
theorem uu (hT:bA P T) {nx t n:Nat} {ps:uD (Nat×uG)} {k:V->Ob->X S1} (hh:tT T env nx t n ps.toList k=.v r):∃ v ob,k v ob=.v r/\pE P env nx (.buildSlice t n ps) v ob:=by
 unfold tT at hh
 split at hh
 ·rename_i i hi
  obtain ⟨inf,d,e1,e2,rfl⟩:=ti hT hi
  split at hh
  ·rename_i e hk
   obtain ⟨rfl,ie,ue,aX,nE⟩:=bT hk
   split at hh
   ·rename_i z hz
    obtain ⟨jx,zv,z1,z2,z3,z4⟩:=dL hz
    have z1:P.info? e=some jx:=z1
    rw[aX] at z1;cases z1
    split at hh
    ·rename_i hb
     have hb:=zac hb
     simp only[gi,br aX] at hb
     rw[gj] at hh
     obtain ⟨iL,q1,q2,q3⟩:=lH hh
     rw[aB] at q1
     refine ⟨_,_,q1,λμ B h h' w tmps d ty pos af g hH he hn hu=>?_⟩
     obtain ⟨c1,c2⟩:=bW hz (z3▸dY μ zv)
     have AG:∀ u∈CI.rep zv.cells.toList n,u.oneCell'=true:=by
      clear q3 hh
      have:∀ m,∀ u∈CI.rep zv.cells.toList m,u.oneCell'=true:=by
       intro m
       induction m with
       | zero=>intro u hu;cases hu
       | succ m ih=>intro u hu;rw[CI.rep,zbq] at hu;exact hu.elim (c2 u) (ih u)
      exact this n
     obtain ⟨jS,k1,k2,k3⟩:=q3 μ tmps _ (λi=>some (i*ie.size,ie.size)) (λi=>by simp[place,show bz P (.slice e)=.sl e from hk,gi,br aX]) he (c1.rep n) AG
     have hl:=k2.len
     have oA:jS.length=n*ie.size:=by
      rw[←hl,q2,bJ,c1.len,zbz,z4]
     obtain ⟨a,b⟩:=fF (w':=w.alloc (.cells ⟨jS⟩ e)) (vs:=jS) (post:=[]) hH hn hu (fz:=(0,0)) (by rw[zbr];rfl) (.inl (zab _)) rfl rfl rfl k2 k3
     refine ⟨.slice (some ⟨w.heap.size,0,none⟩) n n,_,_,?_,.l 0 n _ n Mp.add_same (zab _) (.inl rfl),a,b⟩
     have yH:=dM zv.cells n
     rw[z4] at yH
     have bE:(Array.range (n*ie.size)).map (λi=>(if n*ie.size=0 then (#[]:uD uB) else zv.cells)[i % (if n*ie.size=0 then (#[]:uD uB) else zv.cells).size]!)=⟨CI.rep zv.cells.toList n⟩:=by
      by_cases h0:n*ie.size=0
      ·rw[←yH,h0];simp
      ·simp only[zaj h0];rw[←yH,z4]
     have wG:(ps.map λp=>(p.1,Act.eval ⟨tmps,[]⟩ p.2)).toList=ps.toList.map λp=>(p.1,Act.eval ⟨tmps,[]⟩ p.2):=by simp
     simp only[execOp,Instr.buildSlice,Sem.run_bind,run_underlying e2,Result.andThen_ok,aF aX]
     rw[zaj (by omega)]
     by_cases h0:n*ie.size=0
     ·simp only[zam h0] at bE
      rw[zam h0]
      simp only[bE,wG,k1,newRow,Sem.run_bind,run_newObj,Sem.run_pure,Result.andThen_ok]
      rfl
     ·simp only[zaj h0] at bE
      rw[zaj h0]
      simp only[bE,wG,k1,newRow,Sem.run_bind,run_newObj,Sem.run_pure,Result.andThen_ok,bM (t:=e) z1 z2]
      rfl
    ·cases hh
   ·cases hh
  ·cases hh
 ·cases hh
end al
section al
variable {P:uF} {T:Tr TI} {r:S1} {env:Tr V}
theorem ry {nx t:Nat}:pE P env nx (.makeMap t none) (.m nx) (.m [] 0):=λμ B h h' w tmps d ty pos af g hH he hn hu=>by
 obtain ⟨a,b⟩:=kx (x:=.m [] 0) (y:=.map #[] 0) (ext:=0) (sz:=0) (w':=w.alloc (.map #[] 0)) hH hn hu (λcs e=>by cases e) rfl rfl rfl rfl ⟨[],heap_alloc_new w _,.nil,rfl⟩
 refine ⟨.map (some w.heap.size),_,_,?_,.m Mp.add_same,a,b⟩
 simp[execOp,Instr.makeMap]
theorem rz {nx t a b:Nat} {x:uG} {j:IntKind} {n:Int} (ht:P.underlying t=some (.map a b)) (hx:ev env x=some (.c (.int j n))):pE P env nx (.makeMap t (some x)) (.m nx) (.m [] 0):=λμ B h h' w tmps d ty pos af g hH he hn hu=>by
 obtain ⟨a,b⟩:=kx (x:=.m [] 0) (y:=.map #[] 0) (ext:=0) (sz:=0) (w':=w.alloc (.map #[] 0)) hH hn hu (λcs e=>by cases e) rfl rfl rfl rfl ⟨[],heap_alloc_new w _,.nil,rfl⟩
 refine ⟨.map (some w.heap.size),_,_,?_,.m Mp.add_same,a,b⟩
 simp[execOp,Instr.makeMap,run_underlying ht,(au he hx).int,asInt,asIntOf]
theorem gm {zs:O uB} (h:∀ u∈zs,u.oneCell'=true):∀ m,∀ u∈CI.rep zs m,u.oneCell'=true
 | 0,u,hu=>by cases hu
 | m+1,u,hu=>by rw[CI.rep,zbq] at hu;exact hu.elim (h u) (gm h m u)
theorem rA (hT:bA P T) {nx t:Nat} {x y:uG} {k:V->Ob->X S1} (hh:(aL env x λl=>aL env y λc=>oR T nx t l c k)=.v r):∃ v ob,k v ob=.v r/\pE P env nx (.makeSlice t x y) v ob:=by
 obtain ⟨a,h1,iO⟩:=az hh
 obtain ⟨b,h2,hq⟩:=az iO
 clear hh iO
 unfold oR at hq
 split at hq
 ·rename_i i hi
  obtain ⟨inf,d,e1,e2,rfl⟩:=ti hT hi
  split at hq
  ·rename_i e hk
   obtain ⟨rfl,ie,ue,aX,nE⟩:=bT hk
   split at hq
   ·rename_i n hn
    split at hq
    ·rename_i c hc
     split at hq
     ·rename_i va
      have va:=zac va
      split at hq
      ·rename_i z hz
       obtain ⟨jx,zv,z1,z2,z3,z4⟩:=dL hz
       have z1:P.info? e=some jx:=z1
       rw[aX] at z1;cases z1
       split at hq
       ·cases hq
       ·rename_i hb
        simp only[zaf] at hb
        have b1:=zac hb.1
        have b2:=zac hb.2
        have yI:ln P e=ie.bytes:=by unfold ln;rw[aX]
        simp only[gi,yI] at b2
        rw[gj,aB,aB,aB] at hq
        refine ⟨_,_,hq,λμ B h h' w tmps d ty pos af g hH he xz hu=>?_⟩
        obtain ⟨jl,hl⟩:=eW hn (au he h1)
        obtain ⟨jc,fO⟩:=eW hc (au he h2)
        obtain ⟨c1,c2⟩:=bW hz (z3▸dY μ zv)
        have hm:madeCells zv.cells (c*ie.size)=⟨CI.rep zv.cells.toList c⟩:=by rw[←z4];exact dM zv.cells c
        obtain ⟨a,b⟩:=fF (w':=w.alloc (.cells (madeCells zv.cells (c*ie.size)) e)) (vs:=CI.rep zv.cells.toList c) (post:=[]) hH xz hu (fz:=(0,0)) (by rw[zbr,hm];rfl) (.inl (zab _)) rfl rfl rfl (c1.rep c) (gm c2 c)
        refine ⟨.slice (some ⟨w.heap.size,0,none⟩) n c,_,_,?_,.l 0 n _ c Mp.add_same va (.inl rfl),a,b⟩
        have hr:=run_make (P:=P) w t e ie zv e2 aX z2 jl jc (n:Int) (c:Int) (by omega) (by omega) (by rw[Int.mul_comm,←Int.natCast_mul];exact Int.ofNat_le.2 b2) (by omega)
        simp only[zcn] at hr
        simp only[execOp,hl,fO,hr,Sem.run_bind,Result.andThen_ok,Sem.run_pure]
      ·cases hq
     ·cases hq
    ·cases hq
   ·cases hq
  ·cases hq
 ·cases hq
theorem pG (hT:bA P T) {nx s t e:Nat} (AH:P.underlying e=some (.int .u8)) (iu:P.underlying t=some (.slice e)) (AI:P.underlying s=some .string) {x:uG} {k:V->Ob->X S1}
  (hh:(aL env x λx=>lv T nx t x k)=.v r):∃ v ob,k v ob=.v r/\pE P env nx (.convert s t x) v ob:=by
 obtain ⟨a,h1,hq⟩:=az hh
 clear hh
 unfold lv at hq
 split at hq
 ·rename_i i hi
  obtain ⟨inf,d,e1,e2,rfl⟩:=ti hT hi
  split at hq
  ·rename_i e' hk
   obtain ⟨rfl,_⟩:=bT hk
   rw[iu] at e2;cases e2
   split at hq
   ·rename_i l
    rw[gk,dK (f:=λb=>V.c (.int .u8 (.ofNat b))) (λ_ _=>rfl),zbd] at hq
    refine ⟨_,_,hq,λμ B h h' w tmps d ty pos af g hH he hn hu=>?_⟩
    have hr:=au he h1
    generalize yJ:Act.eval ⟨tmps,[]⟩ x=u at hr
    cases hr with
    | s bs =>
     have aD:=run_bytes_of_string (P:=P) w s t e ⟨⟨bs⟩⟩ AI iu AH
     have qp:=grownCap_ge w bs.length 0 e
     have dh:(⟨⟨bs⟩⟩:ByteArray).size=bs.length:=by simp[ByteArray.size]
     rw[dh] at aD
     have ir:∀ u∈bs.map (λb=>Value.int .u8 (b.toNat:Int)),u.oneCell'=true:=λu hu=>by
      obtain ⟨b,_,rfl⟩:=zcs.1 hu
      rfl
     have AJ:∀ l:O uA,Rs μ ((l.map UInt8.toNat).map λb=>V.c (.int .u8 (.ofNat b))) (l.map λb=>Value.int .u8 (b.toNat:Int)):=λl=>by
      induction l with
      | nil=>exact .nil
      | cons b l ih=>exact .cons (.c _) ih
     have hb:bytesRow ⟨⟨bs⟩⟩ (grownCap w bs.length 0 e)=⟨bs.map (λb=>Value.int .u8 (b.toNat:Int))++List.replicate (grownCap w bs.length 0 e-bs.length) (.int .u8 0)⟩:=by
      apply zct
      simp[bytesRow,dh]
     have yC:(bytesRow ⟨⟨bs⟩⟩ (grownCap w bs.length 0 e)).size=grownCap w bs.length 0 e:=by rw[hb];simp;omega
     obtain ⟨a,b⟩:=fF (sz:=1) (vs:=bs.map (λb=>Value.int .u8 (b.toNat:Int))) (post:=List.replicate (grownCap w bs.length 0 e-bs.length) (.int .u8 0)) hH hn hu (fz:=(grownCap w bs.length 0 e,grownCap w bs.length 0 e+1))
      (w':=w.drew.alloc (.cells (bytesRow ⟨⟨bs⟩⟩ (grownCap w bs.length 0 e)) e (grownCap w bs.length 0 e,grownCap w bs.length 0 e+1))) (by rw[hb];rfl) (.inr (by simp;omega)) rfl rfl rfl (AJ bs) ir
     refine ⟨.slice (some ⟨w.heap.size,0,none⟩) bs.length (grownCap w bs.length 0 e),_,_,?_,?_,a,b⟩
     ·simp only[execOp,yJ,Sem.run_bind,aD,Result.andThen_ok,Sem.run_pure,yC]
     ·simp only[zbx,List.length_replicate]
      refine .l 0 bs.length _ (grownCap w bs.length 0 e) Mp.add_same qp (.inr ⟨rfl,?_⟩)
      show 0+grownCap w bs.length 0 e*1=bs.length+(grownCap w bs.length 0 e-bs.length)
      omega
   ·cases hq
  ·cases hq
 ·cases hq
theorem pH {nx t:Nat} (ht:P.underlying t=some .string) {x:uG} {k:V->Ob->X S1} (hh:(aL env x λx=>lx nx x k)=.v r):∃ v ob,k v ob=.v r/\pE P env nx (.range t x) v ob:=by
 obtain ⟨a,h1,hq⟩:=az hh
 clear hh
 unfold lx at hq
 split at hq
 ·rename_i l
  refine ⟨_,_,hq,λμ B h h' w tmps d ty pos af g hH he hn hu=>?_⟩
  have hr:=au he h1
  generalize yJ:Act.eval ⟨tmps,[]⟩ x=u at hr
  cases hr with
  | s bs =>
   obtain ⟨a,b⟩:=kx (x:=.i (bs.map UInt8.toNat) 0) (y:=.stringIter ⟨⟨bs⟩⟩ 0) (ext:=0) (sz:=0) (w':=w.alloc (.stringIter ⟨⟨bs⟩⟩ 0)) hH hn hu (λcs e=>by cases e) rfl rfl rfl rfl ⟨rfl,bs,rfl,heap_alloc_new w _⟩
   refine ⟨.pointer (some ⟨w.heap.size,0,none⟩),_,_,?_,.p 0 Mp.add_same,a,b⟩
   simp[execOp,yJ,Instr.range,run_underlying ht]
 ·cases hq
end al
end Go.CI
namespace Go.CI
section al
variable {P:uF} {T:Tr TI} {r:S1} {env:Tr V}
theorem rB (hT:bA P T) {nx s t:Nat} {x:uG} {g:Tr V->Nat->(V->Ob->X S1)->X S1} (ha:fy T s t x=.al g) {k:V->Ob->X S1} (hg:g env nx k=.v r):∃ v ob,k v ob=.v r/\pE P env nx (.convert s t x) v ob:=by
 unfold fy at ha
 split at ha
 ·rename_i i hi
  obtain ⟨jx,d',zp,xj,rfl⟩:=ti hT hi
  split at ha
  ·rename_i e hk
   obtain ⟨rfl,_⟩:=bT hk
   split at ha
   ·rename_i hu
    split at ha
    ·rename_i j hj
     obtain ⟨inf,d,e1,e2,rfl⟩:=ti hT hj
     split at ha
     ·rename_i hks
      cases ha
      exact pG hT (sG hT hu) xj (e2.trans (zao some (cD hks))) hg
     ·cases ha
    ·cases ha
   ·cases ha
  ·split at ha
   ·split at ha
    ·split at ha<;>cases ha
    ·cases ha
    ·cases ha
   ·cases ha
  ·split at ha
   ·split at ha<;>cases ha
   ·cases ha
 ·cases ha
theorem rC {b:Builtin} {l:O uG} {ts:O Nat} {g:Tr V->Nat->(V->Ob->X S1)->X S1} (ha:fw T b l ts=.al g):False:=by
 unfold fw at ha
 split at ha
 ·split at ha
  ·split at ha
   ·split at ha<;>cases ha
   ·cases ha
  ·cases ha
 ·split at ha
  ·split at ha
   ·split at ha<;>cases ha
   ·cases ha
  ·cases ha
 ·cases ha
 ·cases ha
 ·cases ha
theorem pI (hT:bA P T) {nx:Nat} {o:Op} {g:Tr V->Nat->(V->Ob->X S1)->X S1} (ha:act T o=.al g) {k:V->Ob->X S1} (hg:g env nx k=.v r):∃ v ob,k v ob=.v r/\pE P env nx o v ob:=by
 unfold act at ha
 split at ha
 case h_8=>exact rB hT ha hg
 all_goals first
  | (cases ha;done)
  | skip
 ·split at ha<;>cases ha
 ·cases ha;exact pF hT hg
 ·cases ha;exact ur hT hg
 ·cases ha;exact uu hT hg
 ·split at ha
  ·cases ha;exact ⟨_,_,hg,ry⟩
  ·split at ha
   ·rename_i i hi
    obtain ⟨inf,d,e1,e2,rfl⟩:=ti hT hi
    split at ha
    ·rename_i a b hk
     obtain ⟨rfl,_⟩:=gX hk
     cases ha
     obtain ⟨v,h1,hq⟩:=az hg
     split at hq
     ·exact ⟨_,_,hq,rz e2 h1⟩
     ·cases hq
    ·cases ha
   ·cases ha
 ·cases ha;exact rA hT hg
 ·split at ha
  ·rename_i i hi
   obtain ⟨inf,d,e1,e2,rfl⟩:=ti hT hi
   split at ha
   ·rename_i hk
    cases ha
    exact pH (e2.trans (zao some (cD hk))) hg
   ·cases ha
  ·cases ha
 ·split at ha
  ·exact (rC ha).elim
  ·cases ha
  ·cases ha
 ·split at ha
  ·split at ha<;>cases ha
  ·cases ha
end al
end Go.CI
namespace Go.CI
open Go.RowKit
open Go.Abs
section ef
variable {P:uF} {T:Tr TI} {r:S1} {μ:Mp} {env:Tr V} {h:Tr Ob}
structure mz (P:uF) (env:Tr V) (nx:Nat) (h:Tr Ob) (o:Op) (v:V) (av:Nat) (h':Tr Ob):Prop where
 le:nx<=av
 run:∀ μ B w tmps (d:Option Tmp) (ty:Nat) (pos:String) (af:uD Edge) (g:Option (Nat×Bool)),HR μ B h.get w->ER μ env tmps->(∀ o,nx<=o->o<av->μ o=none) ->
  ∃ u μ' w',((execOp (Act.eval ⟨tmps,[]⟩) ⟨d,o,ty,pos,af,g⟩).run P w=.ok (.value u) w'∨((execOp (Act.eval ⟨tmps,[]⟩) ⟨d,o,ty,pos,af,g⟩).run P w=.ok .skip w'/\u=Go.undef)) /\
   R μ' v u/\HR μ' B h'.get w'/\Ev μ h.get w μ' h'.get w' nx av
theorem fG (g o t:Nat) (fz:Nat×Nat):∀ (vs:O uB) (i:Nat) (cur:uD uB) (w:uC),w.heap[g]?=some (.cells cur t fz)->(fz.2<=fz.1∨o+i+vs.length<=fz.1)->o+i+vs.length<=cur.size->(∀ v∈vs,v.oneCell'=true) ->
  (storeCells ⟨g,o,none⟩ vs i).run P w=.ok () (w.setRow g ⟨cur.toList.take (o+i)++vs++cur.toList.drop (o+i+vs.length)⟩)
 | [],i,cur,w,hg,_,_,_=>by
  simp only[storeCells,zbr,List.length_nil,zcr,List.take_append_drop]
  rw[show (⟨cur.toList⟩:uD uB)=cur from rfl,setRow_self w g cur t fz hg]
  rfl
 | v::l,i,cur,w,hg,hf,hl,h1=>by
  have hi:o+i<cur.size:=by simp at hl;omega
  have bG:w.cell? ⟨g,o+i,none⟩=some cur[o+i]:=by simp[World.cell?,hg,hi]
  have yK:w.frozen? ⟨g,o+i,none⟩=false:=by
   obtain ⟨lo,fZ⟩:=fz
   simp only[World.frozen?,hg,Bool.and_eq_false_iff,decide_eq_false_iff_not]
   simp only[zbc] at hf
   rcases hf with hf|hf
   ·omega
   ·left;omega
  have bQ:(store ((⟨g,o,none⟩:Addr).add i) v).run P w=.ok () (w.setRow g (cur.setIfInBounds (o+i) v)):=by
   rw[a8,run_store P w _ v _ (h1 v (by simp)),bG]
   simp[yK,setCell_eq_setRow w g (o+i) cur t fz v hg]
  have ih:=fG g o t fz l (i+1) (cur.setIfInBounds (o+i) v) (w.setRow g (cur.setIfInBounds (o+i) v)) (setRow_heap w g cur _ t _ hg)
   (by simp only[zbc] at hf;exact hf.imp id λh=>by omega) (by simp at hl ⊢;omega) (λx hx=>h1 x (by simp[hx]))
  simp only[storeCells,Sem.run_bind,bQ,Result.andThen_ok,ih,setRow_setRow]
  congr 2
  have e:=list_seg_step cur.toList (o+i) v l (by simp at hl ⊢;omega)
  simpa [Array.toList_setIfInBounds,zay] using e
theorem pJ {pre vs post new:O uB} {off:Nat} (hn:off+new.length<=vs.length):(pre++(vs++post)).take (pre.length+off)++new++(pre++(vs++post)).drop (pre.length+off+new.length)=pre++((vs.take off++new++vs.drop (off+new.length))++post):=by
 rw[List.take_append,zcx]
 have e1:pre.take (pre.length+off)=pre:=zck (by omega)
 have e2:pre.drop (pre.length+off+new.length)=[]:=zcl (by omega)
 have e3:pre.length+off-pre.length=off:=by omega
 have e4:pre.length+off+new.length-pre.length=off+new.length:=by omega
 rw[e1,e2,e3,e4,List.take_append,zcx]
 have e5:off-vs.length=0:=by omega
 have e6:off+new.length-vs.length=0:=by omega
 rw[e5,e6]
 simp
theorem iP {o off:Nat} {new:O V} {k:Tr Ob->X S1} (hh:sv o off new h k=.v r):∃ h',k h'=.v r /\
  ∀ μ B w pl nx us,HR μ B h.get w->μ o=some pl->Rs μ new us->(∀ u∈us,u.oneCell'=true) ->
   ∃ w',(storeCells ⟨pl.b,pl.base+off,none⟩ us 0).run P w=.ok () w'/\HR μ B h'.get w'/\Ev μ h.get w μ h'.get w' nx nx:=by
 unfold sv at hh
 split at hh
 ·refine ⟨h,hh,λμ B w pl nx us hH hp hR h1=>?_⟩
  cases hR
  exact ⟨w,rfl,hH,.refl _ _ _ _⟩
 ·split at hh
  ·rename_i ty sz cs hg
   split at hh
   ·rename_i hb
    have hb:=zac hb
    rw[mn _ _ _ _ (by omega)] at hh
    obtain ⟨h',q1,q2⟩:=aS hh
    refine ⟨h',q1,λμ B w pl nx us hH hp hR h1=>?_⟩
    obtain ⟨pl',p1,p2,pn,fz,pre,vs,post,p3,p4,p5,p6,p7,p8⟩:=hH.ob o _ hg
    rw[hp] at p1;cases p1
    have hl:=hR.len
    have oA:=p7.len
    have aD:=fG (P:=P) pl.b (pl.base+off) pn fz us 0 _ w p3 (p4.imp id λh=>by omega) (by simp;omega) h1
    simp only[zcr] at aD
    have wH:=pJ (pre:=pre) (vs:=vs) (post:=post) (new:=us) (off:=off) (by omega)
    rw[p5] at wH
    rw[wH] at aD
    refine ⟨_,aD,?_⟩
    have wI:=hH.jb (h':=h'.get) (n:=nx) (w':=w.setRow pl.b ⟨pre++(vs.take off++us++vs.drop (off+us.length)++post)⟩) (x':=.c ty sz (cs.take off++new++cs.drop (off+new.length))) hg rfl hp q2 (λcs e=>by cases e) (by simp) (λb hb=>setRow_other w pl.b b _ hb) rfl rfl rfl
     ⟨p2,pn,fz,pre,_,post,setRow_heap w pl.b _ _ pn fz p3,p4,p5,by simp;omega,((p7.take off).append hR).append (hl▸p7.drop (off+new.length)),λu hu=>by
      simp only[zbq] at hu
      rcases hu with (hu|hu)|hu
      ·exact p8 u (zbf hu)
      ·exact h1 u hu
      ·exact p8 u (zbg hu)⟩
    exact wI
   ·cases hh
  ·cases hh
theorem pK (hT:bA P T) {nx t:Nat} {x y:uG} {k:V->Nat->Tr Ob->X S1} (hh:(aL env x λx=>aL env y λy=>lA T t x y nx h k)=.v r):∃ v av h',k v av h'=.v r/\mz P env nx h (.store t x y) v av h':=by
 obtain ⟨a,h1,iO⟩:=az hh
 obtain ⟨b,h2,hq⟩:=az iO
 clear hh iO
 unfold lA at hq
 split at hq
 ·rename_i o off
  split at hq
  ·rename_i i hi
   obtain ⟨inf,d,e1,e2,rfl⟩:=ti hT hi
   split at hq
   ·rename_i cs hc
    split at hq
    ·rename_i hb
     have hb:=zae hb
     obtain ⟨h',q1,q2⟩:=iP (P:=P) hq
     refine ⟨_,_,_,q1,zab _,λμ B w tmps d ty pos af g hH he hn=>?_⟩
     have nd:=au he h1
     obtain ⟨c1,c2⟩:=bW hc (au he h2)
     have cJ:=c1.len
     generalize nG:Act.eval ⟨tmps,[]⟩ x=u1 at nd
     generalize kH:Act.eval ⟨tmps,[]⟩ y=u2 at c1 c2 cJ
     cases nd with
     | p _ hp =>
      obtain ⟨w',w1,w2,w3⟩:=q2 μ B w _ nx _ hH hp c1 c2
      refine ⟨_,μ,w',.inr ⟨?_,rfl⟩,.t .nil,w2,w3⟩
      have dh:¬ (u2.cells.size≠inf.size):=λaN=>aN (by rw[←zbz,←cJ];exact hb)
      simp only[execOp,nG,kH,Instr.storeAt,Instr.sureAddr,storeVar,Sem.run_bind,Sem.run_pure,Result.andThen_ok,aF e1,zaj dh,w1]
    ·cases hq
   ·cases hq
  ·cases hq
 ·cases hq
end ef
section ef
variable {P:uF} {T:Tr TI} {r:S1} {μ:Mp} {env:Tr V} {h:Tr Ob}
theorem mA (μ:Mp):∀ l:O uA,Rs μ ((l.map UInt8.toNat).map λb=>V.c (.int .u8 (.ofNat b))) (l.map λb=>Value.int .u8 (b.toNat:Int))
 | []=>.nil
 | b::l=>.cons (.c _) (mA μ l)
theorem Cells.same {w w':uC} {pl:Pl} {vs:O uB} (hc:Cells w pl vs) (hw:w'.heap=w.heap):Cells w' pl vs :=
 ⟨λi u hu=>by have:=hc.get i u hu;simp only[World.cell?,hw] at this ⊢;exact this,hc.one⟩
theorem jC {sz:Nat} {x:V} {k:Nat->O V->X S1} (hh:src h sz x k=.v r):∃ n cs,k n cs=.v r/\cs.length=n*sz/\∀ μ B w u,HR μ B h.get w->R μ x u ->
  ∃ us,Rs μ cs us/\(∀ u∈us,u.oneCell'=true)/\(∀ w',(Builtin.lenOf u).run P w'=.ok n w')/\∀ w' m,w'.heap=w.heap->m<=n->(Builtin.firstCells sz m u).run P w'=.ok ⟨us.take (m*sz)⟩ w':=by
 rcases po hh with ⟨l,rfl,rfl,hq⟩|⟨hz,hq⟩|⟨o,off,n,c,cs,rfl,bE,hle,hq⟩
 ·refine ⟨_,_,hq,by simp,λμ B w u hH hr=>?_⟩
  cases hr with
  | s bs =>
   refine ⟨_,mA μ bs,λu hu=>by obtain ⟨b,_,rfl⟩:=zcs.1 hu;rfl,λw'=>by simp[Builtin.lenOf,ByteArray.size],λw' m hw hm=>?_⟩
   simp only[Builtin.firstCells,iN,Sem.run_pure,Nat.sub_zero,List.drop_zero,Nat.mul_one,←List.map_take]
   simp
 ·refine ⟨_,_,hq,by simp,λμ B w u hH hr=>?_⟩
  rcases hz with rfl|rfl
  ·cases hr
   exact ⟨[],.nil,λu hu=>(by cases hu),λw'=>rfl,λw' m hw hm=>by simp[Builtin.firstCells]⟩
  ·cases hr
   refine ⟨[],.nil,λu hu=>(by cases hu),λw'=>rfl,λw' m hw hm=>?_⟩
   have:m=0:=by omega
   subst this
   simp[Builtin.firstCells,loadCells,loadCellsFrom]
 ·refine ⟨_,_,hq,by simp;omega,λμ B w u hH hr=>?_⟩
  obtain ⟨pl,wC,hp,hR⟩:=iM bE hH
  obtain ⟨vs,kK,cJ⟩:=bZ hR
  cases hr with
  | l _ _ _ kc bw lG hc =>
   rw[hp] at bw;cases bw
   have hl:=kK.len
   refine ⟨_,(kK.drop off).take (n*sz),λu hu=>cJ.one u (zbg (zbf hu)),λw'=>rfl,λw' m hw hm=>?_⟩
   have AK:m*sz<=n*sz:=zbu _ hm
   have:=bP (P:=P) (cJ.same hw) (off:=off) (n:=m*sz) (by omega)
   simp only[Builtin.firstCells,this,List.take_take]
   rw[Nat.min_eq_left AK]
def wJ (base:Option Addr) (l:List uB):Sem Unit:=match base with
 | some a=>storeCells a l 0
 | none=>pure ()
theorem rD (hT:bA P T) {nx:Nat} {xs:uD uG} {ts:uD uE} {k:V->Nat->Tr Ob->X S1} (hh:(kJ env xs.toList λl=>qZ T .copy ts.toList l nx h k)=.v r) :
  ∃ v av h',k v av h'=.v r/\mz P env nx h (.call ⟨.builtin .copy,xs,ts⟩) v av h':=by
 obtain ⟨l,h1,hq⟩:=dX hh
 clear hh
 unfold qZ at hq
 simp only at hq
 split at hq
 ·rename_i d s
  unfold sw at hq
  split at hq
  ·rename_i t tl iu
   split at hq
   ·rename_i i hi
    obtain ⟨inf,ds,e1,e2,rfl⟩:=ti hT hi
    split at hq
    ·rename_i e hk
     obtain ⟨rfl,ie,ue,aX,nE⟩:=bT hk
     simp only[gi,br aX] at hq
     obtain ⟨n,cs,hq,cJ,te⟩:=jC (P:=P) hq
     -- the model's side
     have main:∀ μ B w tmps (dd:J Tmp) (ty:Nat) (pos:String) (af:uD Edge) (g:J (Nat×Bool)),HR μ B h.get w->ER μ env tmps->∃ u us,R μ d u/\Rs μ cs us/\(∀ u∈us,u.oneCell'=true) /\
       ∀ base nH kk w',u=.slice base nH kk->(wJ base (us.take (Nat.min n nH*ie.size))).run P w=.ok () w' ->
        (execOp (Act.eval ⟨tmps,[]⟩) ⟨dd,.call ⟨.builtin .copy,xs,ts⟩,ty,pos,af,g⟩).run P w=.ok (.value (goInt (Nat.min n nH))) w':=λμ B w tmps dd ty pos af g hH he=>by
      have hR:=dv he h1
      rw[←zcy] at hR
      generalize hy:(xs.map (Act.eval ⟨tmps,[]⟩))=ys at hR
      obtain ⟨ys⟩:=ys
      cases hR with
      | cons hd hR =>
       cases hR with
       | cons hs hR =>
        cases hR
        rename_i ud AM
        obtain ⟨us,g1,g2,g3,g4⟩:=te μ B w AM hH hs
        refine ⟨ud,us,hd,g1,g2,λbase nH kk w' hu bQ=>?_⟩
        subst hu
        have hf:=g4 w (Nat.min n nH) rfl (Nat.min_le_left _ _)
        have fK:=rr iu
        cases base with
        | none =>
         cases bQ
         simp[execOp,resolve,hy,invoke,builtin,Builtin.copy_,fK,run_underlying e2,g3 w,aF aX,hf]
        | some a =>
         have bQ:(storeCells a (us.take (Nat.min n nH*ie.size)) 0).run P w=.ok () w':=bQ
         simp[execOp,resolve,hy,invoke,builtin,Builtin.copy_,fK,run_underlying e2,g3 w,aF aX,hf,bQ]
     split at hq
     ·refine ⟨_,_,_,hq,zab _,λμ B w tmps dd ty pos af g hH he hn=>?_⟩
      obtain ⟨u,us,m1,m2,m3,m4⟩:=main μ B w tmps dd ty pos af g hH he
      cases m1
      have e0:Nat.min n 0=0:=Nat.min_eq_right (zba _)
      refine ⟨_,μ,w,.inl (m4 none 0 0 w rfl rfl),?_,hH,.refl _ _ _ _⟩
      rw[e0];exact .c _
     ·refine ⟨_,_,_,hq,zab _,λμ B w tmps dd ty pos af g hH he hn=>?_⟩
      obtain ⟨u,us,m1,m2,m3,m4⟩:=main μ B w tmps dd ty pos af g hH he
      cases m1
      have e0:Nat.min n 0=0:=Nat.min_eq_right (zba _)
      refine ⟨_,μ,w,.inl (m4 _ 0 _ w rfl (by rw[e0,Nat.zero_mul];rfl)),?_,hH,.refl _ _ _ _⟩
      rw[e0];exact .c _
     ·rename_i o off m c x9
      split at hq
      ·rename_i hb
       have hb:=zac hb
       obtain ⟨h',q1,q2⟩:=iP (P:=P) hq
       refine ⟨_,_,_,q1,zab _,λμ B w tmps dd ty pos af g hH he hn=>?_⟩
       obtain ⟨u,us,m1,m2,m3,m4⟩:=main μ B w tmps dd ty pos af g hH he
       cases m1 with
       | l _ _ _ kc hp lG hc =>
        obtain ⟨w',w1,w2,w3⟩:=q2 μ B w _ nx _ hH hp m2 m3
        have hl:=m2.len
        have e0:Nat.min n m=n:=Nat.min_eq_left hb
        refine ⟨_,μ,w',.inl (m4 _ m kc w' rfl ?_),?_,w2,w3⟩
        ·rw[e0,zck (by omega)];exact w1
        ·rw[e0];exact .c _
      ·rename_i hb
       have hb:¬ n<=m:=λe=>by rw[zcz e] at hb;cases hb
       rw[eS] at hq
       obtain ⟨h',q1,q2⟩:=iP (P:=P) hq
       refine ⟨_,_,_,q1,zab _,λμ B w tmps dd ty pos af g hH he hn=>?_⟩
       obtain ⟨u,us,m1,m2,m3,m4⟩:=main μ B w tmps dd ty pos af g hH he
       cases m1 with
       | l _ _ _ kc hp lG hc =>
        obtain ⟨w',w1,w2,w3⟩:=q2 μ B w _ nx _ hH hp (m2.take (m*ie.size)) (λu hu=>m3 u (zbf hu))
        have e0:Nat.min n m=m:=Nat.min_eq_right (by omega)
        refine ⟨_,μ,w',.inl (m4 _ m kc w' rfl ?_),?_,w2,w3⟩
        ·rw[e0];exact w1
        ·rw[e0];exact .c _
     ·cases hq
    ·cases hq
   ·cases hq
  ·cases hq
 ·cases hq
theorem pL (hT:bA P T) {nx:Nat} {xs:uD uG} {ts:uD uE} {k:V->Nat->Tr Ob->X S1} (hh:(kJ env xs.toList λl=>qZ T .clear ts.toList l nx h k)=.v r) :
  ∃ v av h',k v av h'=.v r/\mz P env nx h (.call ⟨.builtin .clear,xs,ts⟩) v av h':=by
 obtain ⟨l,h1,hq⟩:=dX hh
 clear hh
 unfold qZ at hq
 simp only at hq
 split at hq
 ·rename_i x
  unfold oT at hq
  split at hq
  ·rename_i t tl iu
   have fK:=rr iu
   split at hq
   ·rename_i i hi
    obtain ⟨inf,ds,e1,e2,rfl⟩:=ti hT hi
    split at hq
    ·rename_i e hk
     obtain ⟨rfl,ie,ue,aX,nE⟩:=bT hk
     have args:∀ {μ:Mp} {tmps:uD uB},ER μ env tmps->∃ u,R μ x u/\xs.map (Act.eval ⟨tmps,[]⟩)=⟨[u]⟩:=fun {μ tmps} he=>by
      have hR:=dv he h1
      rw[←zcy] at hR
      generalize hy:(xs.map (Act.eval ⟨tmps,[]⟩))=ys at hR
      obtain ⟨ys⟩:=ys
      cases hR with
      | cons hd hR=>cases hR;exact ⟨_,hd,rfl⟩
     split at hq
     ·refine ⟨_,_,_,hq,zab _,λμ B w tmps dd ty pos af g hH he hn=>?_⟩
      obtain ⟨u,hu,hy⟩:=args he
      cases hu
      exact ⟨_,μ,w,.inl (by simp[execOp,resolve,hy,invoke,builtin,Builtin.clear_,fK,run_underlying e2]),.t .nil,hH,.refl _ _ _ _⟩
     ·refine ⟨_,_,_,hq,zab _,λμ B w tmps dd ty pos af g hH he hn=>?_⟩
      obtain ⟨u,hu,hy⟩:=args he
      cases hu
      exact ⟨_,μ,w,.inl (by simp[execOp,resolve,hy,invoke,builtin,Builtin.clear_,fK,run_underlying e2]),.t .nil,hH,.refl _ _ _ _⟩
     ·rename_i o off n c
      split at hq
      ·rename_i z hz
       obtain ⟨jx,zv,z1,z2,z3,z4⟩:=dL hz
       rw[gj] at hq
       obtain ⟨h',q1,q2⟩:=iP (P:=P) hq
       refine ⟨_,_,_,q1,zab _,λμ B w tmps dd ty pos af g hH he hn=>?_⟩
       obtain ⟨u,hu,hy⟩:=args he
       obtain ⟨c1,c2⟩:=bW hz (z3▸dY μ zv)
       cases hu with
       | l _ _ _ kc hp lG hc =>
        obtain ⟨w',w1,w2,w3⟩:=q2 μ B w _ nx _ hH hp (c1.rep n) (gm c2 n)
        have vn:(Builtin.zeroCells zv.cells n).toList=CI.rep zv.cells.toList n:=by
         show ((Array.range (n*zv.cells.size)).map (λi=>zv.cells[i % zv.cells.size]!)).toList=_
         rw[dM]
        refine ⟨_,μ,w',.inl ?_,.t .nil,w2,w3⟩
        cases n with
        | zero =>
         cases w1
         simp[execOp,resolve,hy,invoke,builtin,Builtin.clear_,fK,run_underlying e2]
        | succ n=>simp[execOp,resolve,hy,invoke,builtin,Builtin.clear_,fK,run_underlying e2,bM (t:=e) z1 z2,vn,w1]
      ·cases hq
     ·cases hq
    ·cases hq
   ·cases hq
  ·cases hq
 ·cases hq
end ef
section ef
variable {P:uF} {T:Tr TI} {r:S1} {μ:Mp} {env:Tr V} {h:Tr Ob}
theorem RM.modify:∀ {es:O (V×Nat×V)} {ms:O MapEntry} (i:Nat) {x v:V} {u z:uB},RM μ es ms->R μ x u->R μ v z->RM μ (es.modify i λe=>(x,e.2.1,v)) (ms.modify i λe=>{ e with key:=u,val:=z })
 | _,_,i,_,_,_,_,.nil,_,_=>by cases i<;>exact .nil
 | _,_,0,_,_,_,_,.cons h1 h2 h3 t,hx,hv=>.cons hx hv h3 t
 | _,_,i+1,_,_,_,_,.cons h1 h2 h3 t,hx,hv=>.cons h1 h2 h3 (t.modify i hx hv)
theorem RM.push:∀ {es:O (V×Nat×V)} {ms:O MapEntry} {x v:V} {u z:uB} (b:Nat),RM μ es ms->R μ x u->R μ v z->RM μ (es++[(x,b,v)]) (ms++[⟨u,z,b⟩])
 | _,_,_,_,_,_,b,.nil,hx,hv=>.cons hx hv rfl .nil
 | _,_,_,_,_,_,b,.cons h1 h2 h3 t,hx,hv=>.cons h1 h2 h3 (t.push b hx hv)
theorem RM.erase:∀ {es:O (V×Nat×V)} {ms:O MapEntry} (i:Nat),RM μ es ms->RM μ (es.eraseIdx i) (ms.eraseIdx i)
 | _,_,i,.nil=>by cases i<;>exact .nil
 | _,_,0,.cons h1 h2 h3 t=>t
 | _,_,i+1,.cons h1 h2 h3 t=>.cons h1 h2 h3 (t.erase i)
theorem jD {t:Nat} {x:V}:∀ {es:O (V×Nat×V)} {i:Nat},c5 T t x es=true->fx x es=some i->∃ y b v,es[i]?=some (y,b,v)/\jR x y=some true/\gP T t y=true
 | [],_,_,h=>by cases h
 | (y,b,v)::es,i,hk,h=>by
  obtain ⟨k1,_,k3⟩:=dx hk
  unfold fx at h
  split at h
  ·rename_i hy;cases h;exact ⟨y,b,v,rfl,hy,k1⟩
  ·cases hf:fx x es with
   | none=>rw[hf] at h;cases h
   | some j =>
    rw[hf] at h
    cases h
    obtain ⟨y',b',v',h1,h2,h3⟩:=jD k3 hf
    exact ⟨y',b',v',by simpa using h1,h2,h3⟩
theorem c9 {w:uC} {b ck:Nat} {ms:uD MapEntry} {x:Obj} (hb:w.heap[b]?=some (.map ms ck)):(setObj b x).run P w=.ok () { w with heap:=w.heap.setIfInBounds b x }:=by
 simp only[setObj,Sem.run,hb]
theorem map_set {o B n ck yL:Nat} {es uw:O (V×Nat×V)} {xA:O MapEntry} {h':Hf} {w:uC} {pl:Pl} (hH:HR μ B h.get w) (hg:h.get o=some (.m es ck)) (hp:μ o=some pl) (hh:∀ j,h' j=if j=o then some (.m uw yL) else h.get j) (hR:RM μ uw xA) :
  pl.b<w.heap.size/\HR μ B h' { w with heap:=w.heap.setIfInBounds pl.b (.map ⟨xA⟩ yL) }/\Ev μ h.get w μ h' { w with heap:=w.heap.setIfInBounds pl.b (.map ⟨xA⟩ yL) } n n:=by
 obtain ⟨pl',p1,ms,p2,p3,p4⟩:=hH.ob o _ hg
 rw[hp] at p1;cases p1
 have aG:=(hH.low o _ pl hg rfl hp).2
 refine ⟨aG,hH.jb hg rfl hp hh (λcs e=>by cases e) (by simp) (λb hb=>by simp[zar,zbe hb]) rfl rfl rfl ⟨xA,by simp[aG],hR,p4⟩⟩
theorem jE (hT:bA P T) {t:Nat} {k:Nat->X S1} (hh:ko T t k=.v r):∃ kt e,P.underlying t=some (.map kt e)/\k kt=.v r:=by
 unfold ko at hh
 split at hh
 ·rename_i i hi
  obtain ⟨inf,d,e1,e2,rfl⟩:=ti hT hi
  split at hh
  ·rename_i kt e hk
   exact ⟨kt,e,e2.trans (zao some (gX hk).1),hh⟩
  ·cases hh
 ·cases hh
theorem wK (hT:bA P T) {t:Nat} {m x v:V} {k:Tr Ob->X S1} (hh:oU T t m x v h k=.v r):∃ h',k h'=.v r/\∀ μ B w n um ux uv,HR μ B h.get w->R μ m um->R μ x ux->R μ v uv ->
  ∃ w',(Instr.mapUpdate t um ux uv).run P w=.ok () w'/\HR μ B h'.get w'/\Ev μ h.get w μ h'.get w' n n:=by
 unfold oU at hh
 split at hh
 ·rename_i o
  split at hh
  ·rename_i es ck hg
   obtain ⟨kt,e,hu,hh⟩:=jE hT hh
   split at hh
   ·rename_i hk
    obtain ⟨k1,k2⟩:=eY hk
    have hK:=dw hT k1
    rw[jz] at hh
    cases hf:fx x es with
    | some i =>
     simp only[hf] at hh
     obtain ⟨h',q1,q2⟩:=aS hh
     refine ⟨h',q1,λμ B w n um ux uv hH hm hx hv=>?_⟩
     obtain ⟨pl,ms,hp,hb,fh⟩:=dZ hg hH
     obtain ⟨y,b,v0,g1,g2,g3⟩:=jD k2 hf
     obtain ⟨en,n1,n2,n3,n4⟩:=fh.get g1
     cases hm with
     | m bw =>
      rw[hp] at bw;cases bw
      obtain ⟨aG,s1,s2⟩:=map_set (n:=n) hH hg hp q2 (fh.modify i hx hv)
      refine ⟨_,?_,s1,s2⟩
      have gg:=c8 hT hk hx fh w
      simp only[hf,zat,n1,Option.map_some] at gg
      have aP:(getObj pl.b).run P w=.ok (.map ⟨ms⟩ ck) w:=by simp[getObj,Sem.run,hb]
      have sN:(Instr.keyThatStays en.key ux).run P w=.ok ux w:=by
       unfold Instr.keyThatStays
       rw[zam (kv hK (dw hT g3) hx n2 g2)];rfl
      have qp:(((⟨ms⟩:uD MapEntry)[i]?).map (·.key)).getD ux=en.key:=by simp[n1]
      simp only[Instr.mapUpdate,Sem.run_bind,run_underlying hu,Result.andThen_ok,aP,aT hK hx,gg,qp,sN,zdc,c9 hb]
    | none =>
     simp only[hf] at hh
     obtain ⟨h',q1,q2⟩:=aS hh
     refine ⟨h',q1,λμ B w n um ux uv hH hm hx hv=>?_⟩
     obtain ⟨pl,ms,hp,hb,fh⟩:=dZ hg hH
     cases hm with
     | m bw =>
      rw[hp] at bw;cases bw
      obtain ⟨aG,s1,s2⟩:=map_set (n:=n) hH hg hp q2 (fh.push ck hx hv)
      refine ⟨_,?_,s1,s2⟩
      have gg:=c8 hT hk hx fh w
      simp only[hf,zci] at gg
      have aP:(getObj pl.b).run P w=.ok (.map ⟨ms⟩ ck) w:=by simp[getObj,Sem.run,hb]
      simp only[Instr.mapUpdate,Sem.run_bind,run_underlying hu,Result.andThen_ok,aP,aT hK hx,gg,List.push_toArray,c9 hb]
   ·cases hh
  ·cases hh
 ·cases hh
theorem pM (hT:bA P T) {nx t:Nat} {x m:uG} {k:V->Nat->Tr Ob->X S1} (hh:(aL env x λx=>aL env m λm=>ly T t m x nx h k)=.v r):∃ v av h',k v av h'=.v r/\mz P env nx h (.mapEntry t m x) v av h':=by
 obtain ⟨a,h1,iO⟩:=az hh
 obtain ⟨b,h2,hq⟩:=az iO
 clear hh iO
 unfold ly at hq
 split at hq
 ·rename_i i hi
  obtain ⟨inf,d,e1,e2,rfl⟩:=ti hT hi
  split at hq
  ·rename_i kt et hk
   obtain ⟨rfl,ie,ue,aX,nE⟩:=gX hk
   split at hq
   ·rename_i o
    split at hq
    ·rename_i es ck hg
     split at hq
     ·rename_i vk
      obtain ⟨k1,k2⟩:=eY vk
      have hK:=dw hT k1
      rw[eX] at hq
      cases hf:fx a es with
      | some i =>
       obtain ⟨y,bb,v0,g1,g2,g3⟩:=jD k2 hf
       simp only[hf,zat,g1,Option.map_some] at hq
       refine ⟨_,_,_,hq,zab _,λμ B w tmps d ty pos af g hH he hn=>?_⟩
       have hx:=au he h1
       have hm:=au he h2
       generalize nG:Act.eval ⟨tmps,[]⟩ x=u1 at hx
       generalize kH:Act.eval ⟨tmps,[]⟩ m=u2 at hm
       obtain ⟨pl,ms,hp,hb,fh⟩:=dZ hg hH
       obtain ⟨en,n1,n2,n3,n4⟩:=fh.get g1
       cases hm with
       | m bw =>
        rw[hp] at bw;cases bw
        have gg:=c8 hT vk hx fh w
        simp only[hf,zat,n1,Option.map_some] at gg
        have aP:(getObj pl.b).run P w=.ok (.map ⟨ms⟩ ck) w:=by simp[getObj,Sem.run,hb]
        have sN:(Instr.keyThatStays en.key u1).run P w=.ok u1 w:=by
         unfold Instr.keyThatStays
         rw[zam (kv hK (dw hT g3) hx n2 g2)];rfl
        have qp:(((⟨ms⟩:uD MapEntry)[i]?).map (·.key)).getD u1=en.key:=by simp[n1]
        have AN:(((⟨ms⟩:uD MapEntry)[i]?).map (λe=>(e.born:Int))).getD 0=(bb:Int):=by simp[n1,n4]
        have bo:ms.modify i (λe=>{ e with key:=u1 })=ms:=by
         apply List.ext_getElem?
         intro j
         rw[List.getElem?_modify]
         by_cases hj:i=j
         ·subst hj
          rw[n1]
          have:=pz hK (dw hT g3) hx n2 g2
          simp[←this]
         ·simp[hj]
        have bQ:({ w with heap:=w.heap.setIfInBounds pl.b (.map ⟨ms⟩ ck) }:uC)=w:=by
         have:w.heap.setIfInBounds pl.b (.map ⟨ms⟩ ck)=w.heap:=by
          apply Array.ext_getElem?
          intro j
          rw[zar]
          split
          ·rename_i e;subst e
           split
           ·exact hb.symm
           ·rename_i aG;rw[zcw (by omega)]
          ·rfl
         rw[this]
        refine ⟨_,μ,w,.inl ?_,.t (.cons n3 (.cons (.c (.int .i64 (bb:Int))) .nil)),hH,.refl _ _ _ _⟩
        simp only[execOp,nG,kH,Instr.mapEntry,Sem.run_bind,run_underlying e2,Result.andThen_ok,aP,aT hK hx,gg,qp,sN,zdc,bo,c9 hb,bQ,AN,Sem.run_pure,goInt]
      | none =>
       simp only[hf,zci] at hq
       obtain ⟨z1,hq⟩:=uq hq
       obtain ⟨zI,z,z2,z3,z4,_⟩:=eU z1
       rw[dJ,aB] at hq
       obtain ⟨h',q1,q2⟩:=aS hq
       refine ⟨_,_,_,q1,zab _,λμ B w tmps d ty pos af g hH he hn=>?_⟩
       have hx:=au he h1
       have hm:=au he h2
       generalize nG:Act.eval ⟨tmps,[]⟩ x=u1 at hx
       generalize kH:Act.eval ⟨tmps,[]⟩ m=u2 at hm
       obtain ⟨pl,ms,hp,hb,fh⟩:=dZ hg hH
       have hz:R μ (kI P (gi (.map kt et))) z:=z4▸dY μ z
       cases hm with
       | m bw =>
        rw[hp] at bw;cases bw
        obtain ⟨aG,s1,s2⟩:=map_set (n:=nx) hH hg hp q2 (fh.push ck hx hz)
        have gg:=c8 hT vk hx fh w
        simp only[hf,zci] at gg
        have aP:(getObj pl.b).run P w=.ok (.map ⟨ms⟩ ck) w:=by simp[getObj,Sem.run,hb]
        refine ⟨_,μ,_,.inl ?_,.t (.cons hz (.cons (.c (.int .i64 (ck:Int))) .nil)),s1,s2⟩
        simp only[execOp,nG,kH,Instr.mapEntry,Sem.run_bind,run_underlying e2,Result.andThen_ok,aP,aT hK hx,gg,bM (t:=et) z2 z3,List.push_toArray,c9 hb,Sem.run_pure,goInt]
     ·cases hq
    ·cases hq
   ·cases hq
  ·cases hq
 ·cases hq
theorem mB {b:Nat} {v:V}:∀ {es:O (V×Nat×V)} {k:O (V×Nat×V)->X S1},jr b v es k=.v r->∃ uw,k uw=.v r/\∀ μ ms z,RM μ es ms->R μ v z->∃ i,ms.findIdx? (λe=>(e.born:Int)==(b:Int))=some i/\RM μ uw (ms.modify i λe=>{ e with val:=z })
 | [],k,h=>by cases h
 | (y,c,u)::es,k,h=>by
  unfold jr at h
  split at h
  ·rename_i hb
   have hb:=zae hb
   subst hb
   refine ⟨_,h,λμ ms z hR hz=>?_⟩
   cases hR with
   | cons h1 h2 h3 t=>exact ⟨0,by rw[List.findIdx?_cons];simp[h3],.cons h1 hz h3 t⟩
  ·rename_i hb
   obtain ⟨uw,q1,q2⟩:=mB h
   refine ⟨_,q1,λμ ms z hR hz=>?_⟩
   cases hR with
   | cons h1 h2 h3 t =>
    obtain ⟨i,j1,j2⟩:=q2 μ _ z t hz
    have aN:¬ c=b:=λe=>by subst e;rw[zbv] at hb;cases hb
    refine ⟨i+1,?_,.cons h1 h2 h3 j2⟩
    rw[List.findIdx?_cons,h3,j1]
    have:((c:Int)==(b:Int))=false:=by rw[beq_eq_false_iff_ne];exact λe=>aN (by omega)
    rw[this];rfl
theorem pN {nx t:Nat} {v x m:uG} {k:V->Nat->Tr Ob->X S1} (hh:(aL env v λv=>aL env x λx=>aL env m λm=>lz m x v h λh=>k undef nx h)=.v r):∃ v' av h',k v' av h'=.v r/\mz P env nx h (.entryStore t m x v) v' av h':=by
 obtain ⟨a,h1,iO⟩:=az hh
 obtain ⟨b,h2,sK⟩:=az iO
 obtain ⟨c,h3,hq⟩:=az sK
 clear hh iO sK
 unfold lz at hq
 split at hq
 ·rename_i o
  split at hq
  ·rename_i es ck hg
   split at hq
   ·rename_i n hn
    obtain ⟨uw,q1,q2⟩:=mB hq
    obtain ⟨h',q3,q4⟩:=aS q1
    refine ⟨_,_,_,q3,zab _,λμ B w tmps d ty pos af g hH he xz=>?_⟩
    have hv:=au he h1
    have hx:=au he h2
    have hm:=au he h3
    generalize nG:Act.eval ⟨tmps,[]⟩ v=u1 at hv
    generalize kH:Act.eval ⟨tmps,[]⟩ x=u2 at hx
    generalize AO:Act.eval ⟨tmps,[]⟩ m=u3 at hm
    obtain ⟨pl,ms,hp,hb,fh⟩:=dZ hg hH
    obtain ⟨j,hj⟩:=eW hn hx
    subst hj
    obtain ⟨i,i1,i2⟩:=q2 μ ms u1 fh hv
    cases hm with
    | m bw =>
     rw[hp] at bw;cases bw
     obtain ⟨aG,s1,s2⟩:=map_set (n:=nx) hH hg hp q4 i2
     have aP:(getObj pl.b).run P w=.ok (.map ⟨ms⟩ ck) w:=by simp[getObj,Sem.run,hb]
     refine ⟨_,μ,_,.inr ⟨?_,rfl⟩,.t .nil,s1,s2⟩
     have ve:(⟨ms⟩:uD MapEntry).findIdx? (λe=>(e.born:Int)==(n:Int))=some i:=by rw[List.findIdx?_toArray];exact i1
     have AP:(asInt (.int j (n:Int)):Sem Int).run P w=.ok (n:Int) w:=rfl
     simp only[execOp,nG,kH,AO,Instr.entryStore,Sem.run_bind,Result.andThen_ok,aP,AP,ve,zdc,c9 hb,Sem.run_pure]
   ·cases hq
  ·cases hq
 ·cases hq
theorem pO (hT:bA P T) {nx t:Nat} {v x m:uG} {k:V->Nat->Tr Ob->X S1} (hh:(aL env v λv=>aL env x λx=>aL env m λm=>oU T t m x v h λh=>k undef nx h)=.v r) :
  ∃ v' av h',k v' av h'=.v r/\mz P env nx h (.mapUpdate t m x v) v' av h'/\mz P env nx h (.insert t m x v) v' av h':=by
 obtain ⟨a,h1,iO⟩:=az hh
 obtain ⟨b,h2,sK⟩:=az iO
 obtain ⟨c,h3,hq⟩:=az sK
 clear hh iO sK
 obtain ⟨h',q1,q2⟩:=wK hT hq
 refine ⟨_,_,_,q1,⟨zab _,λμ B w tmps d ty pos af g hH he hn=>?_⟩,zab _,λμ B w tmps d ty pos af g hH he hn=>?_⟩
 ·obtain ⟨w',w1,w2,w3⟩:=q2 μ B w nx _ _ _ hH (au he h3) (au he h2) (au he h1)
  exact ⟨_,μ,w',.inr ⟨by simp only[execOp,Sem.run_bind,w1,Result.andThen_ok,Sem.run_pure],rfl⟩,.t .nil,w2,w3⟩
 ·obtain ⟨w',w1,w2,w3⟩:=q2 μ B w nx _ _ _ hH (au he h3) (au he h2) (au he h1)
  exact ⟨_,μ,w',.inr ⟨by simp only[execOp,Sem.run_bind,w1,Result.andThen_ok,Sem.run_pure],rfl⟩,.t .nil,w2,w3⟩
theorem uy (hT:bA P T) {nx:Nat} {xs:uD uG} {ts:uD uE} {k:V->Nat->Tr Ob->X S1} (hh:(kJ env xs.toList λl=>qZ T .delete ts.toList l nx h k)=.v r) :
  ∃ v av h',k v av h'=.v r/\mz P env nx h (.call ⟨.builtin .delete,xs,ts⟩) v av h':=by
 obtain ⟨l,h1,hq⟩:=dX hh
 clear hh
 unfold qZ at hq
 simp only at hq
 split at hq
 ·rename_i m x
  split at hq
  ·rename_i t tl iu
   have fK:=rr iu
   have args:∀ {μ:Mp} {tmps:uD uB},ER μ env tmps->∃ u z,R μ m u/\R μ x z/\xs.map (Act.eval ⟨tmps,[]⟩)=⟨[u,z]⟩:=fun {μ tmps} he=>by
    have hR:=dv he h1
    rw[←zcy] at hR
    generalize hy:(xs.map (Act.eval ⟨tmps,[]⟩))=ys at hR
    obtain ⟨ys⟩:=ys
    cases hR with
    | cons hd hR=>cases hR with
     | cons he hR=>cases hR;exact ⟨_,_,hd,he,rfl⟩
   unfold wh at hq
   split at hq
   ·rename_i o
    split at hq
    ·rename_i es ck hg
     obtain ⟨kt,e,hu,hq⟩:=jE hT hq
     split at hq
     ·rename_i hk
      obtain ⟨k1,k2⟩:=eY hk
      have hK:=dw hT k1
      rw[jA] at hq
      cases hf:fx x es with
      | some i =>
       simp only[hf] at hq
       obtain ⟨h',q1,q2⟩:=aS hq
       refine ⟨_,_,_,q1,zab _,λμ B w tmps d ty pos af g hH he hn=>?_⟩
       obtain ⟨um,ux,hm,hx,hy⟩:=args he
       obtain ⟨pl,ms,hp,hb,fh⟩:=dZ hg hH
       obtain ⟨y,b,v0,g1,g2,g3⟩:=jD k2 hf
       obtain ⟨en,n1,n2,n3,n4⟩:=fh.get g1
       cases hm with
       | m bw =>
        rw[hp] at bw;cases bw
        obtain ⟨aG,s1,s2⟩:=map_set (n:=nx) hH hg hp q2 (fh.erase i)
        have gg:=c8 hT hk hx fh w
        simp only[hf,zat,n1,Option.map_some] at gg
        have aP:(getObj pl.b).run P w=.ok (.map ⟨ms⟩ ck) w:=by simp[getObj,Sem.run,hb]
        refine ⟨_,μ,_,.inl ?_,.t .nil,s1,s2⟩
        have AQ:(⟨ms⟩:uD MapEntry).eraseIdxIfInBounds i=⟨ms.eraseIdx i⟩:=by
         rw[List.eraseIdxIfInBounds_toArray]
        simp[execOp,resolve,hy,invoke,builtin,Builtin.delete_,fK,run_underlying hu,aP,aT hK hx,gg,AQ,c9 hb]
      | none =>
       simp only[hf] at hq
       obtain ⟨h',q1,q2⟩:=aS hq
       refine ⟨_,_,_,q1,zab _,λμ B w tmps d ty pos af g hH he hn=>?_⟩
       obtain ⟨um,ux,hm,hx,hy⟩:=args he
       obtain ⟨pl,ms,hp,hb,fh⟩:=dZ hg hH
       cases hm with
       | m bw =>
        rw[hp] at bw;cases bw
        obtain ⟨aG,s1,s2⟩:=map_set (n:=nx) hH hg hp q2 fh
        have gg:=c8 hT hk hx fh w
        simp only[hf,zci] at gg
        have aP:(getObj pl.b).run P w=.ok (.map ⟨ms⟩ ck) w:=by simp[getObj,Sem.run,hb]
        refine ⟨_,μ,_,.inl ?_,.t .nil,s1,s2⟩
        simp[execOp,resolve,hy,invoke,builtin,Builtin.delete_,fK,run_underlying hu,aP,aT hK hx,gg,c9 hb]
     ·cases hq
    ·cases hq
   ·obtain ⟨kt,e,hu,hq⟩:=jE hT hq
    split at hq
    ·rename_i hk
     have hK:=dw hT hk
     refine ⟨_,_,_,hq,zab _,λμ B w tmps d ty pos af g hH he hn=>?_⟩
     obtain ⟨um,ux,hm,hx,hy⟩:=args he
     cases hm
     exact ⟨_,μ,w,.inl (by simp[execOp,resolve,hy,invoke,builtin,Builtin.delete_,fK,run_underlying hu,aT hK hx]),.t .nil,hH,.refl _ _ _ _⟩
    ·cases hq
   ·cases hq
  ·cases hq
 ·cases hq
end ef
section ef
variable {P:uF} {t u e ty:Nat} {ie:TypeInfo} {zv:uB} {w w':uC} {ux:uB} {n da iv:Nat} {us:List uB}
inductive ky (P:uF) (ie:TypeInfo) (zv:uB) (u:Nat) (w:uC):uB->Nat->List uB->Prop
 | z {j j':IntKind} (n:Nat) (hu:P.underlying u=some (.int j)) (h1:n<=4611686018427387904) (h2:n*ie.bytes<=140737488355328):ky P ie zv u w (.int j' n) n (CI.rep zv.cells.toList n)
 | s {d:TypeDesc} {ux:uB} {n:Nat} {us:List uB} (hu:P.underlying u=some d) (hd:d=.string∨∃ e,d=.slice e) (hl:∀ w',(Builtin.lenOf ux).run P w'=.ok n w') (hf:∀ w',w'.heap=w.heap->(Builtin.firstCells ie.size n ux).run P w'=.ok ⟨us⟩ w'):ky P ie zv u w ux n us
theorem bL (n:Nat):Builtin.zeroCells zv.cells n=⟨CI.rep zv.cells.toList n⟩:=dM zv.cells n
theorem mC {α:Type} {z:O α} (h:n*z.length=0):CI.rep z n=[]:=zan (by rw[bJ];exact h)
theorem eZ (ht:P.underlying t=some (.slice e)) (aX:P.info? e=some ie) (hz:ie.zero=some zv) (eh:zv.cells.size=ie.size) {base:J Addr} (hs:ky P ie zv u w ux n us) (aW:da+n<=iv)
  (bQ:(wJ (base.map (·.add (da*ie.size))) us).run P w=.ok () w'):(Builtin.append_ #[t,u] ty #[.slice base da iv,ux]).run P w=.ok (.slice base (da+n) iv) w':=by
 cases hs with
 | z n hu h1 h2 =>
  have hw:IntKind.i64.wrap (n:Int)=n:=Abs.vM (by omega) (by omega)
  have g2:¬ (281474976710656<(n:Int)*(ie.bytes:Int)):=by rw[←Int.natCast_mul];omega
  have g1:¬ ((n:Int)<0):=by omega
  by_cases h0:n*ie.size=0
  ·have he:CI.rep zv.cells.toList n=[]:=mC (by simpa [eh] using h0)
   rw[he] at bQ
   have yM:w'=w:=by cases base<;>cases bQ<;>rfl
   subst yM
   cases base<;>simp[Builtin.append_,run_underlying ht,run_underlying hu,aF aX,asInt,asIntOf,hw,g1,g2,typeInfo,aX,aW,h0,storeCells]
  ·cases base with
   | none =>
    cases bQ
    simp[Builtin.append_,run_underlying ht,run_underlying hu,aF aX,asInt,asIntOf,hw,g1,g2,typeInfo,aX,aW,h0,zeroValue,hz]
   | some a =>
    have bQ:(storeCells (a.add (da*ie.size)) (CI.rep zv.cells.toList n) 0).run P w=.ok () w':=bQ
    simp[Builtin.append_,run_underlying ht,run_underlying hu,aF aX,asInt,asIntOf,hw,g1,g2,typeInfo,aX,aW,h0,zeroValue,hz,bL,bQ]
 | s hu hd hl hf =>
  have hf:=hf w rfl
  have hl:=hl w
  rcases hd with rfl|⟨e2,rfl⟩
  all_goals
   cases base with
   | none =>
    cases bQ
    simp[Builtin.append_,run_underlying ht,run_underlying hu,aF aX,hl,aW,hf]
   | some a =>
    have bQ:(storeCells (a.add (da*ie.size)) us 0).run P w=.ok () w':=bQ
    simp[Builtin.append_,run_underlying ht,run_underlying hu,aF aX,hl,aW,hf,bQ]
theorem pP (ht:P.underlying t=some (.slice e)) (aX:P.info? e=some ie) (hz:ie.zero=some zv) (eh:zv.cells.size=ie.size) {base:J Addr} {olds:O uB} (hs:ky P ie zv u w ux n us) (aW:¬ da+n<=iv)
  (h1:da+n<=4611686018427387904) (h2:(da+n)*ie.bytes<=140737488355328) (ho:(Builtin.firstCells ie.size da (.slice base da iv)).run P w.drew=.ok ⟨olds⟩ w.drew) :
  (Builtin.append_ #[t,u] ty #[.slice base da iv,ux]).run P w=.ok (.slice (some ⟨w.heap.size,0,none⟩) (da+n) (grownCap w (da+n) iv e))
   (w.drew.alloc (.cells ⟨olds++us++CI.rep zv.cells.toList (grownCap w (da+n) iv e-(da+n))⟩ e)):=by
 have iW:¬ (9223372036854775807<((da:Int)+(n:Int))):=by omega
 have iX:¬ (281474976710656<Builtin.nextslicecap (da+n) iv*ie.bytes):=by
  have:=growslice_fits (need:=da+n) (old:=iv) (by omega) h2
  omega
 cases hs with
 | z n hu vo qE =>
  have hw:IntKind.i64.wrap (n:Int)=n:=Abs.vM (by omega) (by omega)
  have g2:¬ (281474976710656<(n:Int)*(ie.bytes:Int)):=by rw[←Int.natCast_mul];omega
  have g1:¬ ((n:Int)<0):=by omega
  by_cases h0:n*ie.size=0
  ·have he:CI.rep zv.cells.toList n=[]:=mC (by simpa [eh] using h0)
   rw[he]
   simp[Builtin.append_,run_underlying ht,run_underlying hu,aF aX,asInt,asIntOf,hw,g1,g2,typeInfo,aX,aW,h0,iW,iX,Question.forced,ho,zeroValue,hz,newRow,grownCap,bL]
  ·simp[Builtin.append_,run_underlying ht,run_underlying hu,aF aX,asInt,asIntOf,hw,g1,g2,typeInfo,aX,aW,h0,iW,iX,Question.forced,ho,zeroValue,hz,newRow,grownCap,bL]
 | s hu hd hl hf =>
  have hf:=hf w.drew rfl
  have hl:=hl w
  rcases hd with rfl|⟨e2,rfl⟩
  all_goals
   simp[Builtin.append_,run_underlying ht,run_underlying hu,aF aX,hl,aW,hf,iW,iX,Question.forced,ho,zeroValue,typeInfo,aX,hz,newRow,grownCap,bL]
end ef
theorem HR.reuse {μ:Mp} {B o nx:Nat} {h h':Hf} {w w':uC} {x y:Ob} {pl pl':Pl} (k:HR μ B h w) (hx:h o=some x) (hl:live x=true) (hp:μ o=some pl) (ho:μ nx=none)
  (hh:∀ j,h' j=if j=nx then some y else if j=o then some .g else h j) (hy:∀ cs,y≠.k cs) (bY:pl'.b=pl.b) (hs:w'.heap.size=w.heap.size) (hb:∀ b,b≠pl.b->w'.heap[b]?=w.heap[b]?) (nb:w'.os=w.os) (wk:w'.tape=w.tape) (wm:w'.output=w.output)
  (iE:ju (μ.add nx pl') pl' w' y):HR (μ.add nx pl') B h' w'/\Ev μ h w (μ.add nx pl') h' w' nx (nx+1):=by
 have hle:=Mp.gV (pl:=pl') ho
 have tW:=k.low o x pl hx hl hp
 have hq:∀ j q,j≠nx->(μ.add nx pl') j=some q->μ j=some q:=λj q e hq=>by unfold Mp.add at hq;rw[zaj e] at hq;exact hq
 refine ⟨⟨by rw[hs];exact k.size,λj z hj=>?_,λj z q hj hz h9=>?_,λj cs q hj h9=>?_,λj j' z z' q q' aN hj de hz xB ra jv=>?_⟩,
  hle,λj e1 e2=>?_,nb,wk,wm,Nat.le_of_eq hs.symm,λb vf hn=>hb b λe=>hn ⟨o,x,pl,hx,hl,hp,e.symm⟩,λb vf ⟨j,z,q,h1,h2,h3,h4⟩=>?_,zce _,λj hj=>?_⟩
 ·rw[hh] at hj
  by_cases e:j=nx
  ·rw[zam e] at hj;cases hj;subst e;exact ⟨pl',Mp.add_same,iE⟩
  ·rw[zaj e] at hj
   by_cases e2:j=o
   ·rw[zam e2] at hj;cases hj;subst e2;exact ⟨pl,hle _ _ hp,trivial⟩
   ·rw[zaj e2] at hj
    obtain ⟨q,h1,h2⟩:=k.ob j z hj
    refine ⟨q,hle _ _ h1,?_⟩
    cases hz:live z with
    | true=>exact h2.mono hle (hb _ (k.sep j o z x q pl e2 hj hx hz hl h1 hp))
    | false =>
     cases z with
     | g=>trivial
     | k cs=>exact h2.mono hle (hb _ (by have:=k.nX j cs q hj h1;omega))
     | _=>cases hz
 ·rw[hh] at hj
  rw[hs]
  by_cases e:j=nx
  ·subst e;rw[Mp.add_same] at h9;cases h9;rw[bY];exact tW
  ·rw[zaj e] at hj
   by_cases e2:j=o
   ·rw[zam e2] at hj;cases hj;cases hz
   ·rw[zaj e2] at hj;exact k.low j z q hj hz (hq j q e h9)
 ·rw[hh] at hj
  by_cases e:j=nx
  ·rw[zam e] at hj;cases hj;exact absurd rfl (hy cs)
  ·rw[zaj e] at hj
   by_cases e2:j=o
   ·rw[zam e2] at hj;cases hj
   ·rw[zaj e2] at hj;exact k.nX j cs q hj (hq j q e h9)
 ·rw[hh] at hj de
  by_cases e:j=nx
  ·by_cases e':j'=nx
   ·exact absurd (e.trans e'.symm) aN
   ·rw[zaj e'] at de
    subst e
    rw[Mp.add_same] at ra;cases ra
    by_cases e2:j'=o
    ·rw[zam e2] at de;cases de;cases xB
    ·rw[zaj e2] at de
     rw[bY]
     exact k.sep o j' x z' pl q' (zbe e2) hx de hl xB hp (hq j' q' e' jv)
  ·rw[zaj e] at hj
   by_cases e2:j=o
   ·rw[zam e2] at hj;cases hj;cases hz
   ·rw[zaj e2] at hj
    by_cases e':j'=nx
    ·subst e'
     rw[Mp.add_same] at jv;cases jv
     rw[bY]
     exact k.sep j o z x q pl e2 hj hx hz hl (hq j q e ra) hp
    ·rw[zaj e'] at de
     by_cases e3:j'=o
     ·rw[zam e3] at de;cases de;cases xB
     ·rw[zaj e3] at de
      exact k.sep j j' z z' q q' aN hj de hz xB (hq j q e ra) (hq j' q' e' jv)
 ·by_cases e:j=nx
  ·omega
  ·unfold Mp.add at e2;rw[zaj e] at e2;exact absurd e1 e2
 ·rw[hh] at h1
  by_cases e:j=nx
  ·subst e;rw[Mp.add_same] at h3;cases h3;exact ⟨o,x,pl,hx,hl,hp,by omega⟩
  ·rw[zaj e] at h1
   by_cases e2:j=o
   ·rw[zam e2] at h1;cases h1;cases h2
   ·rw[zaj e2] at h1;exact ⟨j,z,q,h1,h2,hq j q e h3,h4⟩
 ·rw[hh]
  split
  ·simp
  ·split
   ·simp
   ·exact hj
section ef
variable {P:uF} {T:Tr TI} {r:S1} {μ:Mp} {env:Tr V} {h:Tr Ob} {t u e ty:Nat} {ie:TypeInfo} {zv:uB}
structure yN (P:uF) (t u e:Nat) (ie:TypeInfo) (zv:uB) (s:V) (n:Nat) (new:List V) (nx:Nat) (h:Tr Ob) (v:V) (av:Nat) (h':Tr Ob):Prop where
 le:nx<=av
 run:∀ μ B w us su ux ty,HR μ B h.get w->(∀ o,nx<=o->o<av->μ o=none)->R μ s su->Rs μ new us->(∀ u∈us,u.oneCell'=true)->ky P ie zv u w ux n us ->
  ∃ vu μ' w',(Builtin.append_ #[t,u] ty #[su,ux]).run P w=.ok vu w'/\R μ' v vu/\HR μ' B h'.get w'/\Ev μ h.get w μ' h'.get w' nx av
theorem lK {sz eb n:Nat} {old new:O V} {nx:Nat} {k:V->Nat->Tr Ob->X S1} (hh:oS e sz eb n old new nx h k=.v r) :
  n<=4611686018427387904/\n*eb<=140737488355328/\∃ h',k (.l nx 0 n none) (nx+1) h'=.v r/\∀ j,h'.get j=if j=nx then some (.c e sz (old++new)) else h.get j:=by
 unfold oS at hh
 split at hh
 ·cases hh
 ·rename_i hb
  simp only[zaf] at hb
  rw[dJ] at hh
  obtain ⟨h',q1,q2⟩:=aS hh
  rw[aB,aB] at q1
  exact ⟨zac hb.1,zac hb.2,h',q1,q2⟩
theorem lL {m n nx kc B:Nat} {old new:O V} {olds us:O uB} {h1 h':Hf} {w:uC} (ht:P.underlying t=some (.slice e)) (aX:P.info? e=some ie) (hz:ie.zero=some zv) (eh:zv.cells.size=ie.size) (xC:∀ u∈zv.cells.toList,u.oneCell'=true) {base:J Addr} {ux:uB} (hs:ky P ie zv u w ux n us) (aW:¬ m+n<=kc)
  (b1:m+n<=4611686018427387904) (b2:(m+n)*ie.bytes<=140737488355328) (ho:(Builtin.firstCells ie.size m (.slice base m kc)).run P w.drew=.ok ⟨olds⟩ w.drew)
  (hH:HR μ B h1 w) (hn:μ nx=none) (hold:Rs μ old olds) (ei:Rs μ new us) (o1:∀ u∈olds,u.oneCell'=true) (n1:∀ u∈us,u.oneCell'=true) (hlen:(olds++us).length=(m+n)*ie.size)
  (hh:∀ j,h' j=if j=nx then some (.c e ie.size (old++new)) else h1 j) :
  ∃ vu μ' w',(Builtin.append_ #[t,u] ty #[.slice base m kc,ux]).run P w=.ok vu w'/\R μ' (.l nx 0 (m+n) none) vu/\HR μ' B h' w'/\Ev μ h1 w μ' h' w' nx (nx+1):=by
 have aD:=pP (ty:=ty) ht aX hz eh hs aW b1 b2 ho
 have qp:=grownCap_ge w (m+n) kc e
 obtain ⟨a,b⟩:=fF (w':=w.drew.alloc (.cells ⟨olds++us++CI.rep zv.cells.toList (grownCap w (m+n) kc e-(m+n))⟩ e)) (vs:=olds++us) (post:=CI.rep zv.cells.toList (grownCap w (m+n) kc e-(m+n))) (fz:=(0,0)) hH hn hh rfl (.inl (zab _)) rfl rfl rfl (hold.append ei)
  (λu hu=>(zbq.1 hu).elim (o1 u) (n1 u))
 refine ⟨_,_,_,aD,.l 0 (m+n) none (grownCap w (m+n) kc e) Mp.add_same qp (.inr ⟨rfl,?_⟩),a,b⟩
 show 0+grownCap w (m+n) kc e*ie.size=(olds++us).length+(CI.rep zv.cells.toList (grownCap w (m+n) kc e-(m+n))).length
 rw[hlen,bJ,zbz,eh,←zcb,zbd,show m+n+(grownCap w (m+n) kc e-(m+n))=grownCap w (m+n) kc e by omega]
end ef
section ef
variable {P:uF} {T:Tr TI} {r:S1} {μ:Mp} {env:Tr V} {h:Tr Ob} {t u e ty:Nat} {ie:TypeInfo} {zv:uB}
theorem nI {pre vs post us R:O uB} {off M:Nat} (h:off+M<=vs.length):(pre++(vs++post)).take (pre.length+off+M)++us++R=(pre++(vs++post)).take (pre.length+off)++(((vs.drop off).take M++us)++R):=by
 have h1:((pre++(vs++post)).drop (pre.length+off)).take M=(vs.drop off).take M:=by
  rw[zcx,zcl (by omega),List.nil_append,zcu,zcx]
  exact List.take_append_of_le_length (by rw[zch];omega)
 rw[List.take_add,h1]
 simp only[zcm]
theorem uz (ht:P.underlying t=some (.slice e)) (aX:P.info? e=some ie) (hz:ie.zero=some zv) (eh:zv.cells.size=ie.size) {w:uC} {ux:uB} {us:O uB} (hs:ky P ie zv u w ux 0 us) (hl:us.length=0) {base:J Addr} {m kc:Nat} (hm:m<=kc) {ty:Nat} :
  (Builtin.append_ #[t,u] ty #[.slice base m kc,ux]).run P w=.ok (.slice base m kc) w:=by
 have:us=[]:=zan hl
 subst this
 exact eZ ht aX hz eh hs (by omega) (by cases base<;>rfl)
theorem uH (ht:P.underlying t=some (.slice e)) (aX:P.info? e=some ie) (hz:ie.zero=some zv) (eh:zv.cells.size=ie.size) (xC:∀ u∈zv.cells.toList,u.oneCell'=true) {s:V} {n nx:Nat} {new:O V} (By:new.length=n*ie.size)
  {k:V->Nat->Tr Ob->X S1} (hh:nA s e ie.size ie.bytes n new nx h k=.v r):∃ v av h',k v av h'=.v r/\yN P t u e ie zv s n new nx h v av h':=by
 unfold nA at hh
 split at hh
 ·split at hh
  ·refine ⟨_,_,_,hh,zab _,λμ B w us su ux ty hH hn hs hR h1 hA=>?_⟩
   have hl:=hR.len
   cases hs with
   | z b off kc=>exact ⟨_,μ,w,uz ht aX hz eh hA (by omega) (zba _),.z b off kc,hH,.refl _ _ _ _⟩
  ·cases hh
 ·split at hh
  ·refine ⟨_,_,_,hh,zab _,λμ B w us su ux ty hH hn hs hR h1 hA=>?_⟩
   have hl:=hR.len
   cases hs
   exact ⟨_,μ,w,uz ht aX hz eh hA (by omega) (zab _),.c _,hH,.refl _ _ _ _⟩
  ·rename_i n0
   obtain ⟨b1,b2,h',q1,q2⟩:=lK hh
   refine ⟨_,_,_,q1,zce _,λμ B w us su ux ty hH hn hs hR h1 hA=>?_⟩
   have hl:=hR.len
   cases hs
   have xe:¬ n=0:=λe=>n0 e
   have:=lL (m:=0) (n:=n) (kc:=0) (old:=[]) (olds:=[]) (base:=none) (ty:=ty) ht aX hz eh xC hA (by omega) (by omega) (by rw[zbd];exact b2) (by simp[Builtin.firstCells]) hH (hn nx (zab _) (zbt _)) .nil hR (λu hu=>by cases hu) h1 (by simp;omega) q2
   rw[zbd] at this
   exact this
 ·rename_i o off m c
  split at hh
  ·refine ⟨_,_,_,hh,zab _,λμ B w us su ux ty hH hn hs hR h1 hA=>?_⟩
   have hl:=hR.len
   cases hs with
   | l _ _ _ kc hp lG hc=>exact ⟨_,μ,w,uz ht aX hz eh hA (by omega) lG,.l off m c kc hp lG hc,hH,.refl _ _ _ _⟩
  ·rename_i n0
   split at hh
   ·rename_i c
    split at hh
    ·rename_i hb
     have hb:=zac hb
     obtain ⟨h',q1,q2⟩:=iP (P:=P) hh
     rw[aB] at q1
     refine ⟨_,_,_,q1,zab _,λμ B w us su ux ty hH hn hs hR h1 hA=>?_⟩
     cases hs with
     | l _ _ _ kc hp lG hc =>
      obtain rfl:c=kc:=by rcases hc with hc|⟨hc,_⟩<;>cases hc;rfl
      obtain ⟨w',w1,w2,w3⟩:=q2 μ B w _ nx us hH hp hR h1
      exact ⟨_,μ,w',eZ ht aX hz eh hA hb (by rw[←zay] at w1;simpa [wJ,a8] using w1),.l off (m+n) _ c hp hb (.inl rfl),w2,w3⟩
    ·rename_i hb
     have hb:¬ m+n<=c:=λe=>by rw[zcz e] at hb;cases hb
     obtain ⟨cs,r1,r2,r3⟩:=jy hh
     obtain ⟨b1,b2,h',q1,q2⟩:=lK r3
     refine ⟨_,_,_,q1,zce _,λμ B w us su ux ty hH hn hs hR h1 hA=>?_⟩
     have hl:=hR.len
     obtain ⟨pl,wC,hp,uI⟩:=iM r1 hH
     obtain ⟨vs,kK,cJ⟩:=bZ uI
     have xf:=kK.len
     cases hs with
     | l _ _ _ kc bw lG hc =>
      rw[hp] at bw;cases bw
      obtain rfl:c=kc:=by rcases hc with hc|⟨hc,_⟩<;>cases hc;rfl
      have yO:(Builtin.firstCells ie.size m (.slice (some ⟨pl.b,pl.base+off,none⟩) m c)).run P w.drew=.ok ⟨(vs.drop off).take (m*ie.size)⟩ w.drew:=bP (P:=P) (w:=w.drew) (cJ.same rfl) (off:=off) (n:=m*ie.size) (by omega)
      exact lL (ty:=ty) ht aX hz eh xC hA hb b1 b2 yO hH (hn nx (zab _) (zbt _)) ((kK.drop off).take _) hR (λu hu=>cJ.one u (zbg (zbf hu))) h1
       (by rw[zbb,zco,zch,zcb];omega) q2
   ·split at hh
    ·rename_i ty0 s0 cs hg
     split at hh
     ·rename_i dh
      simp only[zaf] at dh
      have z1:=zae dh.1
      have z2:=zac dh.2
      subst z1
      split at hh
      ·rename_i hb
       have hb:=zac hb
       obtain ⟨h',q1,q2⟩:=iP (P:=P) hh
       rw[aB] at q1
       refine ⟨_,_,_,q1,zab _,λμ B w us su ux ty hH hn hs hR h1 hA=>?_⟩
       obtain ⟨pl,p1,p2,pn,fz,pre,vs,post,p3,p4,p5,p6,p7,p8⟩:=hH.ob o _ hg
       have xf:=p7.len
       cases hs with
       | l _ _ _ kc hp lG hc =>
        rw[p1] at hp;cases hp
        have hx:off+kc*pl.sz=pl.ext:=by rcases hc with hc|⟨_,hc⟩<;>first|(cases hc;done)|exact hc
        have aW:m+n<=kc:=Nat.le_of_mul_le_mul_right (c:=ie.size) (by rw[←p2] at hb ⊢;omega) (by omega)
        obtain ⟨w',w1,w2,w3⟩:=q2 μ B w _ nx us hH p1 hR h1
        exact ⟨_,μ,w',eZ ht aX hz eh hA aW (by rw[←zay] at w1;simpa [wJ,a8] using w1),.l off (m+n) _ kc p1 aW (.inr ⟨rfl,hx⟩),w2,w3⟩
      ·rename_i hb
       obtain ⟨iL,r1,r2,r3⟩:=jy hh
       obtain ⟨xx,s1,s2⟩:=aS r3
       obtain ⟨b1,b2,h',q1,q2⟩:=lK s1
       refine ⟨_,_,_,q1,zce _,λμ B w us su ux ty hH hn hs hR h1 hA=>?_⟩
       have hl:=hR.len
       obtain ⟨pl,p1,p2,pn,fz,pre,vs,post,p3,p4,p5,p6,p7,p8⟩:=hH.ob o _ hg
       have xf:=p7.len
       obtain rfl:cs=iL:=by simpa [row,hg] using r1
       have uJ:=hn nx (zab _) (zbt _)
       have aN:¬ o=nx:=λe=>by subst e;rw[uJ] at p1;cases p1
       have Bz:(m+n)*ie.size=m*ie.size+n*ie.size:=zcb _ _ _
       cases hs with
       | l _ _ _ kc hp lG hc =>
        rw[p1] at hp;cases hp
        have hx:off+kc*pl.sz=pl.ext:=by rcases hc with hc|⟨_,hc⟩<;>first|(cases hc;done)|exact hc
        rw[p2] at hx
        by_cases aW:m+n<=kc
        ·have hle:(m+n)*ie.size<=kc*ie.size:=zbu _ aW
         have aD:=fG (P:=P) pl.b (pl.base+off+m*ie.size) pn fz us 0 _ w p3 (p4.imp id λh=>by omega) (by simp;omega) h1
         simp only[zcr] at aD
         have yP:(pre++(vs++post)).take (pl.base+off+m*ie.size)++us++(pre++(vs++post)).drop (pl.base+off+m*ie.size+us.length) =
           (pre++(vs++post)).take (pl.base+off)++(((vs.drop off).take (m*ie.size)++us)++(pre++(vs++post)).drop (pl.base+off+m*ie.size+us.length)):=by
          rw[←p5];exact nI (by omega)
         rw[yP] at aD
         have zK:=hH.reuse (h':=h'.get) (pl':=⟨pl.b,pl.base+off,pl.ext-off,ie.size⟩) (y:=.c e ie.size ((cs.drop off).take (m*ie.size)++new)) (w':=w.setRow pl.b ⟨(pre++(vs++post)).take (pl.base+off)++(((vs.drop off).take (m*ie.size)++us)++(pre++(vs++post)).drop (pl.base+off+m*ie.size+us.length))⟩)
          hg rfl p1 uJ (λj=>by
           rw[q2 j]
           by_cases e1:j=nx
           ·rw[zam e1,zam e1]
           ·rw[zaj e1,zaj e1,s2 j]) (λcs e=>by cases e) rfl (by simp) (λb hb=>setRow_other w pl.b b _ hb) rfl rfl rfl
          ⟨rfl,pn,fz,_,_,_,setRow_heap w pl.b _ _ pn fz p3,p4.imp id λh=>(show pl.base+off+(pl.ext-off)<=fz.1 by omega),by simp;omega,by simp;omega,(((p7.drop off).take _).append hR).mono (Mp.gV uJ),λu hu=>(zbq.1 hu).elim (λhu=>p8 u (zbg (zbf hu))) (h1 u)⟩
         refine ⟨_,_,_,eZ ht aX hz eh hA aW (by simpa [wJ,a8] using aD),.l 0 (m+n) none kc Mp.add_same aW (.inr ⟨rfl,?_⟩),zK.1,zK.2⟩
         show 0+kc*ie.size=pl.ext-off
         omega
        ·have cJ:Cells w pl vs :=  lI p3 p5 p8
         have zL:=hH.jb (h':=xx.get) (n:=nx) (w':=w) (x':=.g) hg rfl p1 s2 (λcs e=>by cases e) rfl (λb hb=>rfl) rfl rfl rfl trivial
         have yO:(Builtin.firstCells ie.size m (.slice (some ⟨pl.b,pl.base+off,none⟩) m kc)).run P w.drew=.ok ⟨(vs.drop off).take (m*ie.size)⟩ w.drew:=bP (P:=P) (w:=w.drew) (cJ.same rfl) (off:=off) (n:=m*ie.size) (by omega)
         obtain ⟨vu,μ',w',g1,g2,g3,g4⟩:=lL (ty:=ty) ht aX hz eh xC hA aW b1 b2 yO zL.1 uJ ((p7.drop off).take _) hR (λu hu=>p8 u (zbg (zbf hu))) h1
          (by rw[zbb,zco,zch,zcb];omega) q2
         exact ⟨vu,μ',w',g1,g2,g3,zL.2.trans g4⟩
     ·cases hh
    ·cases hh
 ·cases hh
end ef
end Go.CI
namespace Go.CI
open Go.RowKit
section next
variable {P:uF} {T:Tr TI} {r:S1} {μ:Mp} {env:Tr V} {h:Tr Ob}
theorem rE {nx:Nat} {x:uG} {k:V->Nat->Tr Ob->X S1} (hh:(aL env x λx=>oV x nx h k)=.v r):∃ v av h',k v av h'=.v r/\mz P env nx h (.next x true) v av h':=by
 obtain ⟨a,h1,hq⟩:=az hh
 clear hh
 unfold oV at hq
 split at hq
 ·rename_i o
  split at hq
  ·rename_i s pos hg
   rw[c6] at hq
   split at hq
   ·rename_i b hb
    split at hq
    ·rename_i hle
     rw[aB] at hq
     obtain ⟨h',q1,q2⟩:=aS hq
     refine ⟨_,_,_,q1,zab _,λμ B w tmps d ty ps af g hH he xz=>?_⟩
     have hx:=au he h1
     generalize hu:Act.eval ⟨tmps,[]⟩ x=u at hx
     obtain ⟨pl,p1,p2,bs,p3,p4⟩:=hH.ob o _ hg
     cases hx with
     | p _ bw =>
      rw[p1] at bw;cases bw
      have aG:=(hH.low o _ pl hg rfl p1).2
      obtain ⟨s1,s2⟩:=hH.jb (n:=nx) (w':={ w with heap:=w.heap.setIfInBounds pl.b (.stringIter ⟨⟨bs⟩⟩ (pos+1)) }) hg rfl p1 q2 (λcs e=>by cases e) (by simp) (λb hb=>by simp[zar,zbe hb]) rfl rfl rfl ⟨p2,bs,p3,by simp[aG]⟩
      subst p3
      rw[zap] at hb
      obtain ⟨c,hc,rfl⟩:=zbk.1 hb
      have sO:pos<bs.length:=(zaa.1 hc).1
      have uK:pos<(⟨⟨bs⟩⟩:ByteArray).size:=sO
      have fO:(⟨⟨bs⟩⟩:ByteArray)[pos]'uK=c:=by
       have:=(zaa.1 hc).2
       exact this
      have wL:=decode_ascii ⟨⟨bs⟩⟩ pos uK (by rw[fO];have:=zac hle;omega)
      rw[fO] at wL
      refine ⟨.tuple #[.bool true,.int .i64 pos,.int .i32 (c.toNat:Int)],μ,_,.inl ?_,.t (.cons (.c _) (.cons (.c _) (.cons (.c _) .nil))),s1,s2⟩
      simp only[execOp,hu,p2]
      simp[Instr.next,getObj,setObj,Sem.run,p4,uK,wL,goInt]
    ·cases hq
   ·rename_i hb
    refine ⟨_,_,_,hq,zab _,λμ B w tmps d ty ps af g hH he xz=>?_⟩
    have hx:=au he h1
    generalize hu:Act.eval ⟨tmps,[]⟩ x=u at hx
    obtain ⟨pl,p1,p2,bs,p3,p4⟩:=hH.ob o _ hg
    cases hx with
    | p _ bw =>
     rw[p1] at bw;cases bw
     subst p3
     have sO:¬ pos<(⟨⟨bs⟩⟩:ByteArray).size:=by
      rw[List.getElem?_eq_none_iff] at hb
      show ¬ pos<bs.length
      simpa using hb
     refine ⟨.tuple #[.bool false],μ,w,.inl ?_,.t (.cons (.c _) .nil),hH,.refl _ _ _ _⟩
     simp only[execOp,hu,p2]
     simp[Instr.next,getObj,Sem.run,p4,sO]
  ·cases hq
 ·cases hq
end next
end Go.CI
namespace Go.CI
open Go.RowKit
open Go.Abs
section ef
variable {P:uF} {T:Tr TI} {r:S1} {env:Tr V} {h:Tr Ob}
theorem nJ {μ:Mp} {cs:O V} {zv:uB} {n:Nat} (h:Rs μ cs zv.cells.toList):(CI.rep cs n).length=n*zv.cells.size:=by rw[bJ,h.len,zbz]
theorem nK (hT:bA P T) {nx:Nat} {xs:uD uG} {ts:uD uE} {k:V->Nat->Tr Ob->X S1} (hh:(kJ env xs.toList λl=>qZ T .append ts.toList l nx h k)=.v r) :
  ∃ v av h',k v av h'=.v r/\mz P env nx h (.call ⟨.builtin .append,xs,ts⟩) v av h':=by
 obtain ⟨l,h1,hq⟩:=dX hh
 clear hh
 unfold qZ at hq
 simp only at hq
 split at hq
 ·rename_i s x
  unfold mh at hq
  split at hq
  ·rename_i t u iu
   have iB:ts=#[t,u]:=by obtain ⟨ts⟩:=ts;simp only at iu;subst iu;rfl
   subst iB
   split at hq
   ·rename_i i hi
    obtain ⟨inf,ds,e1,e2,rfl⟩:=ti hT hi
    split at hq
    ·rename_i e hk
     obtain ⟨rfl,ie,ue,aX,nE⟩:=bT hk
     have yI:ln P e=ie.bytes:=by unfold ln;rw[aX]
     simp only[gi,br aX,yI] at hq
     split at hq
     ·rename_i z hz
      obtain ⟨jx,zv,z1,z2,z3,z4⟩:=dL hz
      rw[aX] at z1;cases z1
      have vn:∀ μ,Rs μ z zv.cells.toList/\∀ x∈zv.cells.toList,x.oneCell'=true:=λμ=>bW hz (z3▸dY μ zv)
      have args:∀ {μ:Mp} {tmps:uD uB},ER μ env tmps->∃ a b,R μ s a/\R μ x b/\xs.map (Act.eval ⟨tmps,[]⟩)=#[a,b]:=fun {μ tmps} he=>by
       have hR:=dv he h1
       rw[←zcy] at hR
       generalize hy:(xs.map (Act.eval ⟨tmps,[]⟩))=ys at hR
       obtain ⟨ys⟩:=ys
       cases hR with
       | cons hd hR=>cases hR with
        | cons he hR=>cases hR;exact ⟨_,_,hd,he,rfl⟩
      have fin:∀ {n:Nat} {new:O V},new.length=n*ie.size->nA s e ie.size ie.bytes n new nx h k=.v r ->
        (∀ μ B w b,HR μ B h.get w->R μ x b->∃ us,Rs μ new us/\(∀ u∈us,u.oneCell'=true)/\ky P ie zv u w b n us)->∃ v av h',k v av h'=.v r/\mz P env nx h (.call ⟨.builtin .append,xs,#[t,u]⟩) v av h':=by
       intro n new hl hq hs
       obtain ⟨v,av,h',q1,q2⟩:=uH (u:=u) e2 aX z2 z4 (vn λ_=>none).2 hl hq
       refine ⟨v,av,h',q1,q2.le,λμ B w tmps d ty pos af g hH he hn=>?_⟩
       obtain ⟨a,b,ha,hb,hy⟩:=args he
       obtain ⟨us,k1,k2,k3⟩:=hs μ B w b hH hb
       obtain ⟨vu,μ',w',g1,g2,g3,g4⟩:=q2.run μ B w us a b ty hH hn ha k1 k2 k3
       exact ⟨vu,μ',w',.inl (by simp only[execOp,resolve,hy,Sem.run_bind,Sem.run_pure,Result.andThen_ok,invoke,builtin,g1]),g2,g3,g4⟩
      split at hq
      ·rename_i j hj
       obtain ⟨AR,d2,f1,f2,rfl⟩:=ti hT hj
       split at hq
       ·rename_i jk wM
        have:=gY wM
        subst this
        split at hq
        ·rename_i j' n
         split at hq
         ·rename_i hb
          simp only[zaf] at hb
          rw[gj] at hq
          refine fin (by rw[nJ (vn λ_=>none).1,z4]) hq λμ B w b hH bY=>?_
          cases bY
          exact ⟨_,(vn μ).1.rep n,gm (vn μ).2 n,.z n f2 (zac hb.1) (zac hb.2)⟩
         ·cases hq
        ·cases hq
       ·rename_i e' wM
        obtain ⟨rfl,_⟩:=bT wM
        obtain ⟨n,cs,hq,hl,hs⟩:=jC (P:=P) hq
        refine fin hl hq λμ B w b hH hb=>?_
        obtain ⟨us,k1,k2,k3,k4⟩:=hs μ B w b hH hb
        refine ⟨us,k1,k2,.s f2 (.inr ⟨_,rfl⟩) k3 λw' hw=>?_⟩
        rw[k4 w' n hw (zab _),zck (by rw[←k1.len,hl];exact zab _)]
       ·rename_i wM
        have:=cD wM
        subst this
        obtain ⟨n,cs,hq,hl,hs⟩:=jC (P:=P) hq
        refine fin hl hq λμ B w b hH hb=>?_
        obtain ⟨us,k1,k2,k3,k4⟩:=hs μ B w b hH hb
        refine ⟨us,k1,k2,.s f2 (.inl rfl) k3 λw' hw=>?_⟩
        rw[k4 w' n hw (zab _),zck (by rw[←k1.len,hl];exact zab _)]
       ·cases hq
      ·cases hq
     ·cases hq
    ·cases hq
   ·cases hq
  ·cases hq
 ·cases hq
theorem rF (hT:bA P T) {nx:Nat} {b:Builtin} {xs:uD uG} {ts:uD uE} {g:Tr V->Nat->Tr Ob->(V->Nat->Tr Ob->X S1)->X S1} (ha:fw T b xs.toList ts.toList=.ef g) {k:V->Nat->Tr Ob->X S1} (hg:g env nx h k=.v r) :
  ∃ v av h',k v av h'=.v r/\mz P env nx h (.call ⟨.builtin b,xs,ts⟩) v av h':=by
 unfold fw at ha
 split at ha
 ·split at ha
  ·split at ha
   ·split at ha<;>cases ha
   ·cases ha
  ·cases ha
 ·split at ha
  ·split at ha
   ·split at ha<;>cases ha
   ·cases ha
  ·cases ha
 ·cases ha
 ·cases ha
 ·cases ha
  cases b with
  | append=>exact nK hT hg
  | copy=>exact rD hT hg
  | clear=>exact pL hT hg
  | delete=>exact uy hT hg
  | _=>obtain ⟨l,h1,hq⟩:=dX hg;cases hq
theorem rG {s t:Nat} {x:uG} {g:Tr V->Nat->Tr Ob->(V->Nat->Tr Ob->X S1)->X S1} (ha:fy T s t x=.ef g):False:=by
 unfold fy at ha
 split at ha
 ·split at ha
  ·split at ha
   ·split at ha
    ·split at ha<;>cases ha
    ·cases ha
   ·cases ha
  ·split at ha
   ·split at ha
    ·split at ha<;>cases ha
    ·cases ha
    ·cases ha
   ·cases ha
  ·split at ha
   ·split at ha<;>cases ha
   ·cases ha
 ·cases ha
theorem uL (hT:bA P T) {nx:Nat} {o:Op} {g:Tr V->Nat->Tr Ob->(V->Nat->Tr Ob->X S1)->X S1} (ha:act T o=.ef g) {k:V->Nat->Tr Ob->X S1} (hg:g env nx h k=.v r):∃ v av h',k v av h'=.v r/\mz P env nx h o v av h':=by
 unfold act at ha
 split at ha
 case h_8=>exact (rG ha).elim
 all_goals first
  | (cases ha;done)
  | skip
 ·split at ha<;>cases ha
 ·split at ha
  ·cases ha
  ·split at ha
   ·split at ha<;>cases ha
   ·cases ha
 ·split at ha
  ·split at ha<;>cases ha
  ·cases ha
 ·cases ha;exact pK hT hg
 ·cases ha;obtain ⟨v,a,b,c,d,_⟩:=pO hT hg;exact ⟨v,a,b,c,d⟩
 ·cases ha;obtain ⟨v,a,b,c,_,d⟩:=pO hT hg;exact ⟨v,a,b,c,d⟩
 ·cases ha;exact pM hT hg
 ·cases ha;exact pN hg
 ·cases ha;exact rE hg
 ·split at ha
  ·exact rF hT ha hg
  ·cases ha
  ·cases ha
 ·split at ha
  ·split at ha<;>cases ha
  ·cases ha
end ef
inductive qx (μ:Mp):List Df->List Deferred->Prop
 | nil:qx μ [] []
 | c {g:Nat} {cs:List V} {vs:List uB} {l:List Df} {m:List Deferred} (h:Rs μ cs vs) (t:qx μ l m):qx μ (.c g cs::l) ({ target:=.fn (.func g) ⟨vs⟩,args:=#[] }::m)
 | m {o:Nat} {pl:Pl} {l:List Df} {m:List Deferred} (h:μ o=some pl) (t:qx μ l m):qx μ (.m o::l) ({ target:=.collected pl.b,args:=#[] }::m)
theorem qx.mono {μ μ':Mp} (e:Le μ μ'):∀ {l:O Df} {m:O Deferred},qx μ l m->qx μ' l m
 | _,_,.nil=>.nil
 | _,_,.c h t=>.c (h.mono e) (t.mono e)
 | _,_,.m h t=>.m (e _ _ h) (t.mono e)
def xD (μ:Mp):Option Nat->Option Nat->Prop
 | none,none=>True
 | some l,some b=>∃ pl,μ l=some pl/\pl.b=b
 | _,_=>False
theorem xD.mono {μ μ':Mp} (e:Le μ μ'):∀ {x y:J Nat},xD μ x y->xD μ' x y
 | none,none,_=>trivial
 | some _,some _,⟨pl,h1,h2⟩=>⟨pl,e _ _ h1,h2⟩
structure CR (μ:Mp) (cx:Cx) (ds:List Df) (f:Ctx):Prop where
 fn:f.fn=cx.fn
 dk:f.dk=cx.dk
 ro:xD μ cx.ro f.ro
 ds:qx μ ds f.ds
theorem CR.mono {μ μ':Mp} {cx:Cx} {ds:O Df} {f:Ctx} (h:CR μ cx ds f) (e:Le μ μ'):CR μ' cx ds f:=⟨h.fn,h.dk,h.ro.mono e,h.ds.mono e⟩
section put
variable {r:S1}
theorem jF {n:Nat} {d:J Nat} {v:V} {env:Tr V} {k:Tr V->X S1} (hh:fA n d v env k=.v r):∃ ay,k ay=.v r/\∀ μ tmps u,ER μ env tmps->n<=tmps.size->R μ v u ->
  ER μ ay (Act.put ⟨tmps,[]⟩ d u).tmps/\n<=(Act.put ⟨tmps,[]⟩ d u).tmps.size:=by
 unfold fA at hh
 split at hh
 ·exact ⟨env,hh,λμ tmps u he hn hr=>⟨he,hn⟩⟩
 ·rename_i d
  split at hh
  ·rename_i hb
   have hb:=zac hb
   obtain ⟨ay,q1,q2⟩:=aS hh
   refine ⟨ay,q1,λμ tmps u he hn hr=>?_⟩
   have e1:(Act.put ⟨tmps,[]⟩ (some d) u).tmps=tmps.setIfInBounds d u:=rfl
   rw[e1]
   refine ⟨λt x hx=>?_,by simpa using hn⟩
   rw[q2 t] at hx
   by_cases e:t=d
   ·subst e
    rw[zam rfl] at hx
    cases hx
    exact ⟨u,by rw[zcq (by omega)],hr⟩
   ·rw[zaj e] at hx
    obtain ⟨y,h1,h2⟩:=he t x hx
    exact ⟨y,by rw[Array.getElem?_setIfInBounds_ne (zbe e)];exact h1,h2⟩
  ·cases hh
theorem dy {l:O Oper} {env:Tr V} {gd:J (Nat×Bool)} {b:Bool} (hh:fE l env gd=some b) {μ:Mp} {tmps:uD uB} (he:ER μ env tmps) {o:Oper} (ho:o.guard=gd):Region.wanted o (yielded ⟨l⟩ tmps)=b:=by
 unfold fE at hh
 unfold Region.wanted
 rw[ho]
 split at hh
 ·cases hh;rfl
 ·rename_i j want
  rw[c6] at hh
  split at hh
  ·rename_i o' bR
   split at hh
   ·rename_i t ht
    split at hh
    ·rename_i b' bY
     obtain ⟨y,h1,h2⟩:=he t _ bY
     cases h2
     simp only[yielded,zbo,bR,zat,ht,h1]
     cases hh
     cases b'<;>cases want<;>rfl
    ·rename_i bY
     obtain ⟨y,h1,h2⟩:=he t _ bY
     cases h2
     simp only[yielded,zbo,bR,zat,ht,h1]
     cases hh
     cases want<;>rfl
    ·cases hh
   ·cases hh
  ·cases hh
end put
def kz (P:uF) (cx:Cx) (ds:List Df) (o:Oper) (env:Tr V) (h:Hf) (nx:Nat) (v:V) (av:Nat) (h':Hf):Prop :=
 nx<=av/\∀ μ B w tmps (f:Ctx) (K:Ending->uC->Prop) (ops:uD Oper) (i:Nat) (rest:List Nat) (k:List Item),ops[i]?=some o->Region.wanted o (yielded ops tmps)=true ->
  HR μ B h w->ER μ env tmps->(∀ o,nx<=o->o<av->μ o=none)->aO B w->CR μ cx ds f ->
  (∀ u μ' w',R μ' v u->HR μ' B h' w'->Ev μ h w μ' h' w' nx av->ag P f K (.inRegion ops rest::k) (Act.put ⟨tmps,[]⟩ o.dst u).tmps w')->ag P f K (.inRegion ops (i::rest)::k) tmps w
section does
variable {P:uF} {T:Tr TI} {r:S1} {env:Tr V} {h:Tr Ob} {cx:Cx} {ds:List Df} {o:Oper}
theorem mD {hf:Hf} {nx:Nat} {v:V} (hs:iK P env o.op v):kz P cx ds o env hf nx v nx hf :=
 ⟨zab _,λμ B w tmps f K ops i rest k ho hw hH he hn hG hC hk=>by
  obtain ⟨u,h1,h2⟩:=hs μ tmps o.dst o.type o.pos o.after o.guard he
  exact ag.value ho hw (h1 w) (hk u μ w h2 hH (.refl _ _ _ _))⟩
theorem mE {nx:Nat} {v:V} (hs:nZ P env h o.op v):kz P cx ds o env h.get nx v nx h.get :=
 ⟨zab _,λμ B w tmps f K ops i rest k ho hw hH he hn hG hC hk=>by
  obtain ⟨u,h1,h2⟩:=hs μ B w tmps o.dst o.type o.pos o.after o.guard hH he
  exact ag.value ho hw h1 (hk u μ w h2 hH (.refl _ _ _ _))⟩
theorem mF {hf h':Hf} {nx:Nat} {v:V} {ob:Ob} (hs:pE P env nx o.op v ob) (hh:∀ j,h' j=if j=nx then some ob else hf j):kz P cx ds o env hf nx v (nx+1) h' :=
 ⟨zce _,λμ B w tmps f K ops i rest k ho hw hH he hn hG hC hk=>by
  obtain ⟨u,pl,w',h1,h2,h3,h4⟩:=hs μ B hf h' w tmps o.dst o.type o.pos o.after o.guard hH he (hn nx (zab _) (zbt _)) hh
  exact ag.value ho hw h1 (hk u _ w' h2 h3 h4)⟩
theorem rH {nx av:Nat} {v:V} {h':Tr Ob} (hs:mz P env nx h o.op v av h'):kz P cx ds o env h.get nx v av h'.get :=
 ⟨hs.le,λμ B w tmps f K ops i rest k ho hw hH he hn hG hC hk=>by
  obtain ⟨u,μ',w',h1,h2,h3,h4⟩:=hs.run μ B w tmps o.dst o.type o.pos o.after o.guard hH he hn
  rcases h1 with h1|⟨h1,rfl⟩
  ·exact ag.value ho hw h1 (hk u μ' w' h2 h3 h4)
  ·exact ag.skip ho hw h1 (hk _ μ' w' h2 h3 h4)⟩
end does
def db:Cf->List Item
 | .k t=>t
 | .o l rest t=>.inRegion ⟨l⟩ ((List.range l.length).drop (l.length-rest.length))::t
def wN:Cf->Prop
 | .k _=>True
 | .o l rest _=>∃ pre,l=pre++rest
def jG (μ:Mp) (B:Nat) (h:Hf) (w:uC) (v:V) (nx av:Nat) (h':Hf) (e:Ending) (w':uC):Prop :=
 ∃ u μ',e=.returned u/\R μ' v u/\HR μ' B h' w'/\Ev μ h w μ' h' w' nx av
theorem jG.later {μ μ1:Mp} {B nx n1 av:Nat} {h h1 h':Hf} {w w1 w':uC} {v:V} {e:Ending} (k:Ev μ h w μ1 h1 w1 nx n1):jG μ1 B h1 w1 v n1 av h' e w'->jG μ B h w v nx av h' e w' :=
 λ⟨u,μ',a,b,c,d⟩=>⟨u,μ',a,b,c,k.trans d⟩
def Goal (P:uF) (cx:Cx) (s:FZ) (v:V) (av:Nat) (h':Tr Ob):Prop :=
 s.nx<=av/\(wN s.cf->∀ μ B w tmps (f:Ctx),HR μ B s.h.get w->ER μ s.env tmps->cx.n<=tmps.size->(∀ o,s.nx<=o->o<av->μ o=none)->aO B w->CR μ cx s.ds f ->
  ag P f (jG μ B s.h.get w v s.nx av h'.get) (db s.cf) tmps w)
def cj (P:uF) (run:Cx->FZ->(V->Nat->Tr Ob->X S1)->X S1):Prop :=
 ∀ cx s k r,run cx s k=.v r->∃ v av h',k v av h'=.v r/\Goal P cx s v av h'
def kL (P:uF) (F:Tr Func):Prop:=∀ g fn,F.get g=some fn->tU P g=some fn
theorem kL.fn {P:uF} {F:Tr Func} (h:kL P F) {g:Nat} {fn:Func} (hg:F.get g=some fn):P.funcs[g]?=some fn/\(fn.name == "runtime.NumGoroutine")=false:=by
 have:=h g fn hg
 unfold tU at this
 split at this
 ·rename_i wO h1
  split at this
  ·rename_i h2;cases this;exact ⟨h1,h2⟩
  ·cases this
 ·cases this
def mG (P:uF) (E:Nat->Option (List V->Tr Ob->(V->X S1)->X S1)):Prop :=
 ∀ g x,E g=some x->Enters P g/\∀ xs h k r,x xs h k=.v r->∃ v,k v=.v r/\∀ μ B w us,HR μ B h.get w->Rs μ xs us->aO B w->Calls P g ⟨us⟩ w λe w'=>∃ u,e=.returned u/\R μ v u/\Below w.heap.size w w'
theorem Ev.eE {μ μ':Mp} {h h':Hf} {w w':uC} {n n' B:Nat} (e:Ev μ h w μ' h' w' n n') (k:HR μ B h w) (g:aO B w):aO B w':=g.below (e.below k)
theorem HR.grow {μ:Mp} {B n:Nat} {h:Hf} {w w':uC} (k:HR μ B h w) (b:Below w.heap.size w w'):HR μ B h w'/\Ev μ h w μ h w' n n :=
  ⟨⟨zau k.size b.size,(λo x ho=>by
      obtain ⟨pl,h1,h2⟩:=k.ob o x ho
      refine ⟨pl,h1,?_⟩
      cases hl:live x with
      | true=>exact h2.mono (.refl _) (b.block _ (k.low o x pl ho hl h1).2)
      | false =>
        cases x with
        | g=>trivial
        | k cs=>exact h2.mono (.refl _) (b.block _ (by have:=k.nX o cs pl ho h1;have:=k.size;omega))
        | _=>(cases hl)),
    λo x pl ho hl hp=>let q:=k.low o x pl ho hl hp;⟨q.1,zag q.2 b.size⟩,k.nX,k.sep⟩,
   .refl _,λo h k=>absurd h k,b.os,b.tape,b.output,b.size,λc hc _=>b.block c hc,λc hc ho=>ho,zab _,λ_ h=>h⟩
section calls
variable {P:uF} {T:Tr TI} {F:Tr Func} {E:Nat->Option (List V->Tr Ob->(V->X S1)->X S1)} {run:Cx->FZ->(V->Nat->Tr Ob->X S1)->X S1} {r:S1} {env:Tr V} {h:Tr Ob} {cx:Cx} {ds:List Df} {o:Oper}
theorem mH:∀ {xs:O V} {i:Nat} {t:Tr V} {k:Tr V->X S1},mi i xs t k=.v r->∃ env,k env=.v r/\∀ j,env.get j=if i<=j/\j<i+xs.length then xs[j-i]? else t.get j
 | [],i,t,k,hh=>⟨t,hh,λj=>by rw[zaj (by simp)]⟩
 | v::xs,i,t,k,hh=>by
  unfold mi at hh
  obtain ⟨t',q1,q2⟩:=aS hh
  obtain ⟨env,e1,e2⟩:=mH q1
  refine ⟨env,e1,λj=>?_⟩
  rw[e2 j,q2 j]
  simp only[zbc]
  by_cases hj:j=i
  ·subst hj;rw[zaj (by omega),zam rfl,zam (by omega),Nat.sub_self];rfl
  ·by_cases hr:i+1<=j/\j<i+1+xs.length
   ·rw[zam hr,zam (by omega),show j-i=(j-(i+1))+1 by omega];simp
   ·rw[zaj hr,zaj hj,zaj (by omega)]
theorem rI {μ:Mp} {xs:O V} {us:O uB} {env:Tr V} {n:Nat} (hR:Rs μ xs us) (he:∀ j,env.get j=if 0<=j/\j<0+xs.length then xs[j-0]? else (Tr.e:Tr V).get j) :
  ER μ env (⟨us⟩++Array.replicate (n-us.length) Go.undef)/\n<=(⟨us⟩++Array.replicate (n-us.length) Go.undef:uD uB).size:=by
 refine ⟨λt v hv=>?_,by simp;omega⟩
 rw[he t] at hv
 split at hv
 ·rename_i ht
  obtain ⟨u,h1,h2⟩:=hR.get (by simpa using hv)
  have:=(zaa.1 h1).1
  exact ⟨u,by rw[zcd (by simpa using this)];simpa using h1,h2⟩
 ·simp at hv
theorem e7 (hF:kL P F) (aD:cj P run) {dk:Bool} {g:Nat} {xs:List V} {nx:Nat} {k:V->Nat->Tr Ob->X S1} (hh:fD F run dk g xs nx h k=.v r):∃ v av h',k v av h'=.v r/\nx<=av/\Enters P g /\
  ∀ μ B w us,HR μ B h.get w->Rs μ xs us->(∀ o,nx<=o->o<av->μ o=none)->aO B w ->
   match dk with
   | false=>Calls P g ⟨us⟩ w (jG μ B h.get w v nx av h'.get)
   | true=>∀ u,CallsD P g ⟨us⟩ u w λe u' w'=>u'=u/\jG μ B h.get w v nx av h'.get e w':=by
 unfold fD at hh
 split at hh
 ·rename_i fn hg
  obtain ⟨f1,f2⟩:=hF.fn hg
  split at hh
  ·rename_i c hc
   obtain ⟨env,e1,e2⟩:=mH hh
   rw[aB] at e1
   obtain ⟨v,av,h',q1,q2,q3⟩:=aD _ _ _ _ e1
   refine ⟨v,av,h',q1,q2,⟨fn,f1,f2,by rw[hc];rfl⟩,λμ B w us hH hR hn hG=>?_⟩
   obtain ⟨a1,a2⟩:=rI (n:=fn.ntmps) hR e2
   cases dk with
   | false=>exact ag.calls f1 hc (q3 trivial μ B w _ (.of g) hH a1 a2 hn hG ⟨rfl,rfl,trivial,.nil⟩)
   | true=>exact λu=>ag.oH f1 hc (q3 trivial μ B w _ ⟨g,[],none,true⟩ hH a1 a2 hn hG ⟨rfl,rfl,trivial,.nil⟩)
  ·cases hh
 ·cases hh
theorem rJ (hF:kL P F) (hE:mG P E) (aD:cj P run) {g:Nat} {xs:O V} {nx:Nat} {k:V->Nat->Tr Ob->X S1} (hh:mj F E run g xs nx h k=.v r):∃ v av h',k v av h'=.v r/\nx<=av/\Enters P g /\
  ∀ μ B w us,HR μ B h.get w->Rs μ xs us->(∀ o,nx<=o->o<av->μ o=none)->aO B w->Calls P g ⟨us⟩ w (jG μ B h.get w v nx av h'.get):=by
 unfold mj at hh
 split at hh
 ·rename_i x hx
  obtain ⟨e1,e2⟩:=hE g x hx
  obtain ⟨v,q1,q2⟩:=e2 _ _ _ _ hh
  refine ⟨v,nx,h,q1,zab _,e1,λμ B w us hH hR hn hG=>(q2 μ B w us hH hR hG).mono λe w' ⟨u,a,b,c⟩=>?_⟩
  obtain ⟨g1,g2⟩:=hH.grow (n:=nx) c
  exact ⟨u,μ,a,b,g1,g2⟩
 ·obtain ⟨v,av,h',q1,q2,q3,q4⟩:=e7 hF aD hh
  exact ⟨v,av,h',q1,q2,q3,q4⟩
theorem fT {g:Nat} {vs args:uD uB} {w:uC}:(Deferred.ofValue (.func (.func g) #[] vs) args).run P w=.ok { target:=.fn (.func g) vs,args:=args } w:=by
 simp[Deferred.ofValue]
theorem nL (hF:kL P F) (hE:mG P E) (aD:cj P run) {g:Nat} {cs xs:O V} {nx:Nat} {k:V->Nat->Tr Ob->X S1} {f:uG} {l:uD uG} {ts:uD uE} (ho:o.op=.call ⟨.value f,l,ts⟩) (hl:wj env l.toList xs) (hf:ev env f=some (.f g cs))
  (hh:mj F E run g (xs++cs) nx h k=.v r):∃ v av h',k v av h'=.v r/\kz P cx ds o env h.get nx v av h'.get:=by
 obtain ⟨v,av,h',q1,q2,q3,q4⟩:=rJ hF hE aD hh
 refine ⟨v,av,h',q1,q2,λμ B w tmps f' K ops i rest kk yQ hw hH he hn hG hC hk=>?_⟩
 have hr:=au he hf
 generalize hu:Act.eval ⟨tmps,[]⟩ f=u at hr
 cases hr with
 | f _ qq =>
  rename_i vs
  have oh:=dv he hl
  refine ag.call yQ hw (f':=g) (args:=⟨l.toList.map (Act.eval ⟨tmps,[]⟩)++vs⟩) (w':=w) ?_ ((q4 μ B w _ hH (oh.append qq) hn hG).mono λe w' ⟨u,μ',a,b,c,d⟩=>⟨u,a,hk u μ' w' b c d⟩)
  obtain ⟨d0,o0,ty,pos,af,gd⟩:=o
  simp only at ho
  subst ho
  have yR:l.map (Act.eval ⟨tmps,[]⟩)=⟨l.toList.map (Act.eval ⟨tmps,[]⟩)⟩:=by apply zct;simp
  simp only[execOp,resolve,hu,Sem.run_bind,fT,Result.andThen_ok,invoke,cR q3,yR]
  simp
end calls
section ops
variable {P:uF} {T:Tr TI} {F:Tr Func} {E:Nat->Option (List V->Tr Ob->(V->X S1)->X S1)} {run:Cx->FZ->(V->Nat->Tr Ob->X S1)->X S1} {r:S1} {env:Tr V} {h:Tr Ob} {cx:Cx} {ds:List Df} {o:Oper}
theorem kA {n:Nat}:∀ {ps:O Nat} {vs:O V} {e:Tr V} {k:Tr V->X S1},gQ n ps vs e k=.v r->∃ e',k e'=.v r/\vs.length=ps.length/\∀ μ us tmps,Rs μ vs us->ER μ e tmps->n<=tmps.size ->
  ER μ e' ((ps.zip us).foldl (λt p=>t.setIfInBounds p.1 p.2) tmps)/\n<=((ps.zip us).foldl (λt p=>t.setIfInBounds p.1 p.2) tmps).size
 | [],[],e,k,hh=>⟨e,hh,rfl,λμ us tmps hR he hn=>by cases hR;exact ⟨he,hn⟩⟩
 | p::ps,v::vs,e,k,hh=>by
  unfold gQ at hh
  obtain ⟨e1,q1,q2⟩:=jF hh
  obtain ⟨e',q3,q4,q5⟩:=kA q1
  refine ⟨e',q3,by simp[q4],λμ us tmps hR he hn=>?_⟩
  cases hR with
  | cons h1 h2 =>
   obtain ⟨a1,a2⟩:=q2 μ tmps _ he hn h1
   exact q5 μ _ _ h2 a1 a2
 | [],_::_,_,_,hh=>by cases hh
 | _::_,[],_,_,hh=>by cases hh
theorem gZ {w:uC} {b:Nat} {lp:Loop} {x:Obj} (hb:w.heap[b]?=some (.loop lp)):(setObj b x).run P w=.ok () { w with heap:=w.heap.setIfInBounds b x }:=by
 simp only[setObj,Sem.run,hb]
theorem nM {g:Nat} {args:uD uB} {w:uC}:(Deferred.ofValue (.func (.yield g) #[] #[]) args).run P w=.ok { target:=.fn (.yield g) #[],args:=args } w:=by
 simp[Deferred.ofValue]
theorem iQ {μ:Mp} {B lo n fn n0:Nat} {b b':Bool} {h h':Hf} {w:uC} {e:Tr V} {ps:O Nat} {a bd:Code} {pl:Pl} {lp:Loop} {st:LoopState} (k:HR μ B h w) (hx:h lo=some (.r b fn n0 e ps a bd)) (hp:μ lo=some pl) (hl:w.heap[pl.b]?=some (.loop lp))
  (bQ:st=(if b' then .ready else .busy)) (hh:∀ j,h' j=if j=lo then some (.r b' fn n0 e ps a bd) else h j) :
  HR μ B h' { w with heap:=w.heap.setIfInBounds pl.b (.loop { lp with state:=st }) }/\Ev μ h w μ h' { w with heap:=w.heap.setIfInBounds pl.b (.loop { lp with state:=st }) } n n:=by
 obtain ⟨pl',p1,BA,p2,p3,p4,p5,p6,p7,p8,p9,yS⟩:=k.ob lo _ hx
 rw[hp] at p1;cases p1
 rw[hl] at p2;cases p2
 have aG:=(k.low lo _ pl hx rfl hp).2
 exact k.jb hx rfl hp hh (λcs e=>by cases e) (by simp) (λb hb=>by simp[zar,zbe hb]) rfl rfl rfl ⟨{ lp with state:=st },by simp[aG],p3,bQ,p5,p6,p7,p8,p9,yS⟩
theorem lM (aD:cj P run) {lo fn n nx:Nat} {e:Tr V} {ps:List Nat} {a b:Code} {xs:List V} {k:V->Nat->Tr Ob->X S1} {f:uG} {l:uD uG} {ts:uD uE} (ho:o.op=.call ⟨.value f,l,ts⟩) (hl:wj env l.toList xs) (hf:ev env f=some (.y lo)) (hg:h.get lo=some (.r true fn n e ps a b))
  (hh:(gQ n ps xs e λe'=>run ⟨fn,some lo,n,false⟩ ⟨.k [.code a,.beginRound,.code b],e',nx,h,[]⟩ λ_ nx h=>match h.get lo with
   | some (.r false xt n2 e2 xu a2 b2)=>Tr.set 64 h lo (.r true xt n2 e2 xu a2 b2) λh=>k (cB true) nx h
   | _=>no 175)=.v r):∃ v av h',k v av h'=.v r/\kz P cx ds o env h.get nx v av h'.get:=by
 obtain ⟨e',q1,q2,q3⟩:=kA hh
 obtain ⟨v,av,h1,q4,q5,q6⟩:=aD _ _ _ _ q1
 split at q4
 ·rename_i xt n2 e2 xu a2 b2 zM
  obtain ⟨h2,q7,q8⟩:=aS q4
  refine ⟨_,_,_,q7,q5,λμ B w tmps f' K ops i rest kk yQ hw hH he hn hG hC hk=>?_⟩
  have hr:=au he hf
  generalize hu:Act.eval ⟨tmps,[]⟩ f=u at hr
  cases hr with
  | y hp =>
   rename_i pl
   obtain ⟨pl',p1,lp,p2,p3,p4,p5,p6,p7,p8,p9,yS⟩:=hH.ob lo _ hg
   rw[hp] at p1;cases p1
   have oh:=dv he hl
   obtain ⟨a1,a2⟩:=q3 μ _ _ oh yS p3
   have yR:l.map (Act.eval ⟨tmps,[]⟩)=⟨l.toList.map (Act.eval ⟨tmps,[]⟩)⟩:=by apply zct;simp
   have dh:¬ ((⟨l.toList.map (Act.eval ⟨tmps,[]⟩)⟩:uD uB).size≠lp.params.size):=λaN=>aN (by rw[p7];exact oh.len.symm.trans q2)
   refine ag.round yQ hw (l:=pl.b) (f':=lp.fn) (tm:=(ps.zip (l.toList.map (Act.eval ⟨tmps,[]⟩))).foldl (λt p=>t.setIfInBounds p.1 p.2) lp.tmps) (assign:=lp.assign) (body:=lp.body) (w':=w) ?_ ?_
   ·obtain ⟨d0,o0,ty,pos,af,gd⟩:=o
    simp only at ho
    subst ho
    have aP:(getObj pl.b).run P w=.ok (.loop lp) w:=by simp[getObj,Sem.run,p2]
    simp only[execOp,resolve,hu,Sem.run_bind,nM,Result.andThen_ok,invoke,yR,Instr.yield,Instr.getLoop,aP,Sem.run_pure,zaj dh]
    rw[p7]
    simp[List.zip_toArray]
   ·rw[p8,p9]
    have yT:=q6 trivial μ B w _ ⟨lp.fn,[],some pl.b,false⟩ hH a1 a2 hn hG ⟨p6,rfl,⟨pl,hp,rfl⟩,.nil⟩
    refine yT.mono λen w2 ⟨u,μ',c1,c2,c3,c4⟩=>?_
    obtain ⟨jT,r1,yU,r2,r3,r4,r5,r6,r7,r8,r9,zN⟩:=c3.ob lo _ zM
    have nY:=c4.le lo pl hp
    rw[nY] at r1;cases r1
    obtain ⟨t1,t2⟩:=iQ (n:=av) c3 zM nY r2 (st:=.ready) (b':=true) rfl q8
    have aP:(getObj pl.b).run P w2=.ok (.loop yU) w2:=by simp[getObj,Sem.run,r2]
    have AS:({ yU with state:=.ready,pending:=none }:Loop)={ yU with state:=.ready }:=by rw[←r5]
    refine ⟨_,?_,hk _ μ' _ (.c _) t1 (c4.trans t2)⟩
    simp only[Instr.endRound,Instr.getLoop,Sem.run_bind,aP,Result.andThen_ok,Sem.run_pure,Option.isNone_none,zcf,AS,gZ r2]
 ·cases q4
theorem rK {s t:Nat} {x f:uG} {l:O uG} (ha:fy T s t x=.ca f l):False:=by
 unfold fy at ha
 split at ha
 ·split at ha
  ·split at ha
   ·split at ha
    ·split at ha<;>cases ha
    ·cases ha
   ·cases ha
  ·split at ha
   ·split at ha
    ·split at ha<;>cases ha
    ·cases ha
    ·cases ha
   ·cases ha
  ·split at ha
   ·split at ha<;>cases ha
   ·cases ha
 ·cases ha
theorem rL {b:Builtin} {l m:O uG} {ts:O Nat} {f:uG} (ha:fw T b l ts=.ca f m):False:=by
 unfold fw at ha
 split at ha
 ·split at ha
  ·split at ha
   ·split at ha<;>cases ha
   ·cases ha
  ·cases ha
 ·split at ha
  ·split at ha
   ·split at ha<;>cases ha
   ·cases ha
  ·cases ha
 ·cases ha
 ·cases ha
 ·cases ha
theorem uM {op:Op} {f:uG} {l:O uG} (ha:act T op=.ca f l):∃ l':uD uG,∃ ts,op=.call ⟨.value f,l',ts⟩/\l'.toList=l:=by
 unfold act at ha
 split at ha
 case h_8=>exact (rK ha).elim
 all_goals first
  | (cases ha;done)
  | skip
 ·split at ha<;>cases ha
 ·split at ha
  ·cases ha
  ·split at ha
   ·split at ha<;>cases ha
   ·cases ha
 ·split at ha
  ·split at ha<;>cases ha
  ·cases ha
 ·split at ha
  ·exact (rL ha).elim
  ·cases ha;exact ⟨_,_,rfl,rfl⟩
  ·cases ha
 ·split at ha
  ·split at ha<;>cases ha
  ·cases ha
theorem sP (hT:bA P T) (hF:kL P F) (hE:mG P E) (aD:cj P run) {nx:Nat} {k:V->Nat->Tr Ob->X S1} (hh:xv F E run (act T o.op) env nx h k=.v r):∃ v av h',k v av h'=.v r/\kz P cx ds o env h.get nx v av h'.get:=by
 unfold xv at hh
 split at hh
 ·rename_i g ha
  obtain ⟨v,q1,q2⟩:=pD hT ha hh
  exact ⟨v,nx,h,q1,mD q2⟩
 ·rename_i g ha
  obtain ⟨v,q1,q2⟩:=jB hT ha hh
  exact ⟨v,nx,h,q1,mE q2⟩
 ·rename_i g ha
  obtain ⟨v,ob,q1,q2⟩:=pI hT ha hh
  obtain ⟨h',q3,q4⟩:=aS q1
  rw[aB] at q3
  exact ⟨v,_,h',q3,mF q2 q4⟩
 ·rename_i g ha
  obtain ⟨v,av,h',q1,q2⟩:=uL hT ha hh
  exact ⟨v,av,h',q1,rH q2⟩
 ·rename_i f l ha
  obtain ⟨l',ts,ho,mX⟩:=uM ha
  subst mX
  obtain ⟨xs,q1,hh⟩:=dX hh
  obtain ⟨fv,q2,hh⟩:=az hh
  unfold sx at hh
  split at hh
  ·rw[dJ] at hh
   exact nL hF hE aD ho q1 q2 hh
  ·split at hh
   ·rename_i hg
    exact lM aD ho q1 q2 hg hh
   ·cases hh
  ·cases hh
 ·cases hh
 ·cases hh
end ops
section res
variable {P:uF} {T:Tr TI} {F:Tr Func} {E:Nat->Option (List V->Tr Ob->(V->X S1)->X S1)} {run:Cx->FZ->(V->Nat->Tr Ob->X S1)->X S1} {r:S1} {env:Tr V} {h:Tr Ob} {cx:Cx} {ds:List Df}
theorem kB (tmps:uD uB) (t:Nat):Act.eval ⟨tmps,[]⟩ (.tmp t)=tmps.getD t Go.undef:=rfl
theorem lN (hT:bA P T):∀ {l:O ResultVar} {k:O V->X S1},iq T env h l k=.v r->∃ vs,k vs=.v r/\∀ μ B w tmps,HR μ B h.get w->ER μ env tmps ->
  ∃ us,Rs μ vs us/\(l.mapM (Abs.iF tmps)).run P w=.ok us w
 | [],k,hh=>⟨[],hh,λμ B w tmps hH he=>⟨[],.nil,by simp⟩⟩
 | .tmp t::l,k,hh=>by
  unfold iq at hh
  obtain ⟨v,q1,hh⟩:=az hh
  obtain ⟨vs,q2,q3⟩:=lN hT hh
  refine ⟨_,q2,λμ B w tmps hH he=>?_⟩
  obtain ⟨us,k1,k2⟩:=q3 μ B w tmps hH he
  refine ⟨_,.cons (au he q1) k1,?_⟩
  simp only[List.mapM_cons,Abs.iF,Sem.run_bind,Sem.run_pure,Result.andThen_ok,k2,kB]
 | .cell a t::l,k,hh=>by
  unfold iq at hh
  have AT:(aL env (.tmp a) λa=>km T h t a λv=>iq T env h l λr=>k (v::r))=.v r:=hh
  obtain ⟨v,q0,q1⟩:=mw hT AT
  obtain ⟨vs,q2,q3⟩:=lN hT q0
  refine ⟨_,q2,λμ B w tmps hH he=>?_⟩
  obtain ⟨us,k1,k2⟩:=q3 μ B w tmps hH he
  obtain ⟨u,u1,u2⟩:=q1 μ B w tmps none 0 "" #[] none hH he
  refine ⟨_,.cons u2 k1,?_⟩
  have yD:((do loadVar t (←asAddr (tmps.getD a Go.undef))):Sem uB).run P w=.ok u w:=by
   simp only[execOp,kB,Instr.loadAt] at u1
   generalize tmps.getD a Go.undef=z at u1
   cases z with
   | pointer p =>
    cases p with
    | some p =>
     simp only[Instr.sureAddr,asAddr,Sem.run_bind,Sem.run_pure,Result.andThen_ok] at u1 ⊢
     cases hl:(loadVar t p).run P w with
     | ok x w'=>rw[hl] at u1;simp only[Result.andThen_ok] at u1;cases u1;rfl
     | halt a b=>rw[hl] at u1;cases u1
    | none=>simp[Instr.sureAddr] at u1
   | _=>simp[Instr.sureAddr] at u1
  have yV:(Abs.iF tmps (.cell a t)).run P w=.ok u w:=yD
  simp only[List.mapM_cons,Sem.run_bind,yV,Sem.run_pure,Result.andThen_ok,k2]
theorem pQ (hT:bA P T) {fn:Func} {nx:Nat} (hh:(iq T env h fn.results.toList λl=>oW l λv=>(.v (.fin v nx h):X S1))=.v r):∃ v,r=.fin v nx h/\∀ μ B w tmps,HR μ B h.get w->ER μ env tmps->∃ u,R μ v u/\(results fn tmps).run P w=.ok u w:=by
 obtain ⟨vs,q1,q2⟩:=lN hT hh
 have lh:∀ {tmps:uD uB} {us:List uB} {w:uC},(fn.results.toList.mapM (Abs.iF tmps)).run P w=.ok us w ->
   (results fn tmps).run P w=.ok (if h:(⟨us⟩:uD uB).size=1 then (⟨us⟩:uD uB)[0] else .tuple ⟨us⟩) w:=fun {tmps us w} hm=>by
  have nV:(fn.results.mapM (Abs.iF tmps)).run P w=.ok ⟨us⟩ w:=by
   rw[Array.mapM_eq_mapM_toList]
   simp only[Sem.run_map,hm,Result.andThen_ok]
  have yW:(results fn tmps)=(do let vs ←fn.results.mapM (Abs.iF tmps);pure (if h:vs.size=1 then vs[0] else .tuple vs)):=by
   unfold results
   congr 1
  rw[yW]
  simp only[Sem.run_bind,nV,Result.andThen_ok,Sem.run_pure]
 unfold oW at q1
 split at q1
 ·rename_i v
  cases q1
  refine ⟨_,rfl,λμ B w tmps hH he=>?_⟩
  obtain ⟨us,k1,k2⟩:=q2 μ B w tmps hH he
  cases k1 with
  | cons h1 h2 =>
   cases h2
   exact ⟨_,h1,lh k2⟩
 ·rename_i aN
  cases q1
  refine ⟨_,rfl,λμ B w tmps hH he=>?_⟩
  obtain ⟨us,k1,k2⟩:=q2 μ B w tmps hH he
  refine ⟨_,.t k1,?_⟩
  rw[lh k2]
  rw[dif_neg]
  intro hl
  have:=k1.len
  simp only[zcv] at hl
  match vs,this,aN with
  | [v],_,aN=>exact aN v rfl
  | [],this,_=>simp at this;omega
  | _::_::_,this,_=>simp at this;omega
end res
def qy (P:uF) (cx:Cx) (s:FZ):S1->Prop
 | .go s'=>s.nx<=s'.nx/\∀ v av h',Goal P cx s' v av h'->Goal P cx s v av h'
 | .fin v av h'=>Goal P cx s v av h'
theorem Ev.eu {μ μ':Mp} {h h':Hf} {w w':uC} {n n1 n':Nat} (e:Ev μ h w μ' h' w' n n1) (hn:∀ o,n<=o->o<n'->μ o=none) (hle:n<=n1):∀ o,n1<=o->o<n'->μ' o=none:=λo h1 h2=>by
 cases hq:μ' o with
 | none=>rfl
 | some pl =>
  have:=e.new o (hn o (by omega) h2) (by rw[hq];simp)
  omega
theorem cL {μ:Mp} {B n:Nat} {h:Hf} {w:uC} {v:V} {u:uB} (hH:HR μ B h w) (hr:R μ v u):jG μ B h w v n n h (.returned u) w:=⟨u,μ,rfl,hr,hH,.refl _ _ _ _⟩
theorem dz {P:uF} {fn:Func} {tmps:uD uB} {R R':Ending->uC->Prop} (hr:∀ e w,R e w->R' e w):∀ ds u w,Leaves P fn tmps R ds u w->Leaves P fn tmps R' ds u w
 | [],.returning,w,⟨v,h1,h2⟩=>⟨v,h1,hr _ _ h2⟩
 | [],.panicking chain,w,h=>hr _ _ h
 | [],.run,w,h=>h.elim
 | d::ds,u,w,⟨hu,fv,cap,f,args,h1,h2,h3⟩=>⟨hu,fv,cap,f,args,h1,h2,h3.mono λe u' w' h=>by
   cases e with
   | returned v=>exact dz hr ds _ _ h
   | panicked c=>exact dz hr ds _ _ h
   | outgrown=>exact hr _ _ h⟩
section step
variable {P:uF} {T:Tr TI} {F:Tr Func} {E:Nat->Option (List V->Tr Ob->(V->X S1)->X S1)} {run:Cx->FZ->(V->Nat->Tr Ob->X S1)->X S1} {r:S1} {env:Tr V} {h:Tr Ob} {cx:Cx} {ds:List Df} {nx:Nat}
theorem bh {k k':O Item} (hs:∀ (f:Ctx) K tmps w,ag P f K k' tmps w->ag P f K k tmps w):qy P cx ⟨.k k,env,nx,h,ds⟩ (.go ⟨.k k',env,nx,h,ds⟩) :=
 ⟨zab _,λv av h' ⟨g1,g2⟩=>⟨g1,λ_ μ B w tmps f hH he hn hf hG hC=>hs f _ tmps w (g2 trivial μ B w tmps f hH he hn hf hG hC)⟩⟩
theorem pR {μ:Mp} {f:Ctx} (hC:CR μ cx [] f) (fQ:cx.ro=none):f=⟨cx.fn,[],none,cx.dk⟩:=by
 obtain ⟨a,b,c,d⟩:=hC
 obtain ⟨fn,ds,ro,dk⟩:=f
 simp only at a b c d
 subst a;subst b
 cases d
 rw[fQ] at c
 cases ro with
 | none=>rfl
 | some _=>cases c
theorem mI (hT:bA P T) (hF:kL P F) (aD:cj P run) {fn:Func}:∀ {ds:O Df} {nx:Nat} {h:Tr Ob},leave T F run fn.results.toList env ds nx h=.v r->∃ v av h',r=.fin v av h'/\nx<=av /\
  ∀ μ B w tmps uN,HR μ B h.get w->ER μ env tmps->(∀ o,nx<=o->o<av->μ o=none)->aO B w->qx μ ds uN->Leaves P fn tmps (jG μ B h.get w v nx av h'.get) uN .returning w
 | [],nx,h,hh=>by
  unfold leave at hh
  obtain ⟨v,q1,q2⟩:=pQ hT hh
  refine ⟨v,nx,h,q1,zab _,λμ B w tmps uN hH he hn hG hD=>?_⟩
  cases hD
  obtain ⟨u,u1,u2⟩:=q2 μ B w tmps hH he
  exact ⟨u,u2,cL hH u1⟩
 | .m _::_,_,_,hh=>by cases hh
 | .c g cs::ds,nx,h,hh=>by
  unfold leave at hh
  obtain ⟨v1,qz,h1,q1,q2,q3,q4⟩:=e7 hF aD hh
  obtain ⟨v,av,h',q5,q6,q7⟩:=mI hT hF aD q1
  refine ⟨v,av,h',q5,zau q2 q6,λμ B w tmps uN hH he hn hG hD=>?_⟩
  cases hD with
  | c qq hD =>
   rename_i vs m
   refine ⟨by simp,.func g,⟨vs⟩,g,⟨vs⟩,rfl,?_,?_⟩
   ·simp only[invoke,cR q3]
    simp
   ·refine CallsD.mono (q4 μ B w _ hH qq (λo a b=>hn o a (by omega)) hG .returning) ?_
    intro e u' w' ⟨hu,u,μ',a,b,c,d⟩
    subst hu
    subst a
    have hl:=q7 μ' B w' tmps m c (he.mono d.le) (d.eu hn q2) (d.eE hH hG) (hD.mono d.le)
    exact dz (λe w hp=>hp.later d) _ _ _ hl
theorem sQ (hT:bA P T) (hF:kL P F) (aD:cj P run) {fn:Func} (nW:P.funcs[cx.fn]?=some fn) (fQ:cx.ro=none) {k:O Item} (hk:k=[]/\ds=[]∨∃ k',k=.code .ret::k') (hh:q9 T F run cx fn.results.toList env nx h ds=.v r):qy P cx ⟨.k k,env,nx,h,ds⟩ r:=by
 unfold q9 at hh
 split at hh
 ·obtain ⟨v,rfl,q2⟩:=pQ hT hh
  refine ⟨zab _,λ_ μ B w tmps f hH he hn hf hG hC=>?_⟩
  have hf:=pR hC fQ
  subst hf
  obtain ⟨u,u1,u2⟩:=q2 μ B w tmps hH he
  rcases hk with ⟨rfl,_⟩|⟨k',rfl⟩
  ·cases lj:cx.dk with
   | true=>exact ag.wc nW u2 (cL hH u1)
   | false=>exact ag.fin nW u2 (cL hH u1)
  ·cases lj:cx.dk with
   | true=>exact ag.wb nW u2 (cL hH u1)
   | false=>exact ag.ret nW u2 (cL hH u1)
 ·rename_i o
  split at hh
  ·cases hh
  ·rename_i lj
   split at hh
   ·rename_i hg
    obtain ⟨h1,q1,q2⟩:=aS hh
    obtain ⟨v,rfl,q3⟩:=pQ hT q1
    refine ⟨zab _,λ_ μ B w tmps f hH he hn hf hG hC=>?_⟩
    obtain ⟨a,b,c,d⟩:=hC
    obtain ⟨wO,uN,ro,dk⟩:=f
    simp only at a b c d
    subst a;subst b
    rw[fQ] at c
    cases d with
    | m hp hD =>
     cases hD
     rename_i pl
     obtain ⟨pl',p1,p2⟩:=hH.ob o _ hg
     rw[hp] at p1;cases p1
     have hb:w.heap[pl.b]?=some (.deferred (some [])):=p2
     have ht:=hH.jb (h':=h1.get) (n:=nx) (w':={ w with heap:=w.heap.setIfInBounds pl.b (.deferred none) }) (x':=.g) hg rfl hp q2 (λcs e=>by cases e) (by simp) (λb hb=>by simp[zar,zbe hb]) rfl rfl rfl trivial
     obtain ⟨u,u1,u2⟩:=q3 μ B _ tmps ht.1 he
     have l4:(Instr.takeDeferred pl.b).run P w=.ok [] { w with heap:=w.heap.setIfInBounds pl.b (.deferred none) }:=by
      simp only[Instr.takeDeferred,getObj,setObj,Sem.run_bind,Sem.run,hb,Result.andThen_ok,Sem.run_pure]
     cases ro with
     | some _=>cases c
     | none =>
      rw[lj]
      rcases hk with ⟨_,hk⟩|⟨k',rfl⟩
      ·cases hk
      ·exact ag.yt nW l4 u2 ⟨u,μ,rfl,u1,ht.1,ht.2⟩
   ·cases hh
 ·rename_i hne1 hne2
  split at hh
  ·cases hh
  ·rename_i lj
   obtain ⟨v,av,h',rfl,q1,q2⟩:=mI hT hF aD hh
   refine ⟨q1,λ_ μ B w tmps f hH he hn hf hG hC=>?_⟩
   have uO:f.ro=none:=by
    have:=hC.ro
    rw[fQ] at this
    cases uo:f.ro with
    | none=>rfl
    | some _=>rw[uo] at this;cases this
   have hl:=q2 μ B w tmps f.ds hH he hf hG hC.ds
   rcases hk with ⟨_,hk⟩|⟨k',rfl⟩
   ·exact absurd hk hne1
   ·exact ag.yu uO (hC.dk.trans lj) (by rw[hC.fn];exact nW) hl
end step
section step
variable {P:uF} {T:Tr TI} {F:Tr Func} {E:Nat->Option (List V->Tr Ob->(V->X S1)->X S1)} {run:Cx->FZ->(V->Nat->Tr Ob->X S1)->X S1} {r:S1} {env:Tr V} {h:Tr Ob} {cx:Cx} {ds:List Df} {nx:Nat}
theorem uP {op:Op} {f:uG} (ha:act T op=.df f):∃ l' ts,op=.defer ⟨.value f,l',ts⟩/\l'.toList=[]:=by
 have hC:∀ {s t:Nat} {x:uG},fy T s t x=.df f->False:=fun {s t x} ha=>by
  unfold fy at ha
  split at ha
  ·split at ha
   ·split at ha
    ·split at ha
     ·split at ha<;>cases ha
     ·cases ha
    ·cases ha
   ·split at ha
    ·split at ha
     ·split at ha<;>cases ha
     ·cases ha
     ·cases ha
    ·cases ha
   ·split at ha
    ·split at ha<;>cases ha
    ·cases ha
  ·cases ha
 have hB:∀ {b:Builtin} {l:O uG} {ts:O Nat},fw T b l ts=.df f->False:=fun {b l ts} ha=>by
  unfold fw at ha
  split at ha
  ·split at ha
   ·split at ha
    ·split at ha<;>cases ha
    ·cases ha
   ·cases ha
  ·split at ha
   ·split at ha
    ·split at ha<;>cases ha
    ·cases ha
   ·cases ha
  ·cases ha
  ·cases ha
  ·cases ha
 unfold act at ha
 split at ha
 case h_8=>exact (hC ha).elim
 all_goals first
  | (cases ha;done)
  | skip
 ·split at ha<;>cases ha
 ·split at ha
  ·cases ha
  ·split at ha
   ·split at ha<;>cases ha
   ·cases ha
 ·split at ha
  ·split at ha<;>cases ha
  ·cases ha
 ·split at ha
  ·exact (hB ha).elim
  ·cases ha
  ·cases ha
 ·split at ha
  ·split at ha
   ·rename_i hl
    cases ha
    exact ⟨_,_,rfl,hl⟩
   ·cases ha
  ·cases ha
theorem lO {pre rest:O Oper} {o:Oper}:(List.range (pre++o::rest).length).drop ((pre++o::rest).length-(o::rest).length)=pre.length::(List.range (pre++o::rest).length).drop ((pre++o::rest).length-rest.length):=by
 have h1:(pre++o::rest).length-(o::rest).length=pre.length:=by simp
 have h2:(pre++o::rest).length-rest.length=pre.length+1:=by simp;omega
 rw[h1,h2]
 rw[List.drop_eq_getElem_cons (by simp)]
 simp
theorem wP (hT:bA P T) (hF:kL P F) (hE:mG P E) (aD:cj P run) {o:Oper} {l rest:O Oper} {k:O Item} (hh:yw T F E run cx o l rest k env nx h ds=.v r):qy P cx ⟨.o l (o::rest) k,env,nx,h,ds⟩ r:=by
 have lP:∀ {pre:O Oper},l=pre++o::rest->(db (.o l (o::rest) k)=.inRegion ⟨l⟩ (pre.length::(List.range l.length).drop (l.length-rest.length))::k)/\(⟨l⟩:uD Oper)[pre.length]?=some o/\wN (.o l rest k):=fun {pre} hl=>by
  subst hl
  refine ⟨?_,by simp,⟨pre++[o],by simp⟩⟩
  show Item.inRegion _ _::k=_
  rw[lO]
 unfold yw at hh
 split at hh
 ·cases hh
 ·rename_i hw
  obtain ⟨ay,q1,q2⟩:=jF hh
  cases q1
  refine ⟨zab _,λv av h' ⟨g1,g2⟩=>⟨g1,λ⟨pre,hl⟩ μ B w tmps f hH he hn hf hG hC=>?_⟩⟩
  obtain ⟨t1,t2,t3⟩:=lP hl
  obtain ⟨p1,p2⟩:=q2 μ tmps Go.undef he hn (.t .nil)
  show ag P f _ (db (.o l (o::rest) k)) tmps w
  rw[t1]
  exact ag.cG t2 (dy hw he rfl) (g2 t3 μ B w _ f hH p1 p2 hf hG hC)
 ·rename_i hw
  split at hh
  ·rename_i f ha
   split at hh
   ·rename_i fQ
    obtain ⟨fv,q0,hh⟩:=az hh
    split at hh
    ·rename_i g cs
     obtain ⟨ay,q1,q2⟩:=jF hh
     cases q1
     refine ⟨zab _,λv av h' ⟨g1,g2⟩=>⟨g1,λ⟨pre,hl⟩ μ B w tmps f' hH he hn hf hG hC=>?_⟩⟩
     obtain ⟨t1,t2,t3⟩:=lP hl
     obtain ⟨p1,p2⟩:=q2 μ tmps Go.undef he hn (.t .nil)
     obtain ⟨l',ts,ho,mX⟩:=uP ha
     have hr:=au he q0
     generalize hu:Act.eval ⟨tmps,[]⟩ f=u at hr
     cases hr with
     | f _ qq =>
      rename_i vs
      have uO:f'.ro=none:=by
       have:=hC.ro
       rw[fQ] at this
       cases uo:f'.ro with
       | none=>rfl
       | some _=>rw[uo] at this;cases this
      show ag P f' _ (db (.o l (o::rest) k)) tmps w
      rw[t1]
      refine ag.qR (d:={ target:=.fn (.func g) ⟨vs⟩,args:=#[] }) uO t2 (dy hw he rfl) (w':=w) ?_ (g2 t3 μ B w _ _ hH p1 p2 hf hG ⟨hC.fn,hC.dk,hC.ro,.c qq hC.ds⟩)
      obtain ⟨d0,o0,ty,pos,af,gd⟩:=o
      simp only at ho
      subst ho
      obtain ⟨l'⟩:=l'
      simp only at mX
      subst mX
      simp only[execOp,resolve,hu,Sem.run_bind,fT,Result.andThen_ok,Sem.run_pure]
      simp
    ·cases hh
   ·cases hh
  ·obtain ⟨v1,qz,h1,q1,q2⟩:=sP (cx:=cx) (ds:=ds) hT hF hE aD hh
   obtain ⟨ay,q3,q4⟩:=jF q1
   cases q3
   obtain ⟨d1,d2⟩:=q2
   refine ⟨d1,λv av h' ⟨g1,g2⟩=>⟨zau d1 g1,λ⟨pre,hl⟩ μ B w tmps f hH he hn hf hG hC=>?_⟩⟩
   obtain ⟨t1,t2,t3⟩:=lP hl
   show ag P f _ (db (.o l (o::rest) k)) tmps w
   rw[t1]
   refine d2 μ B w tmps f _ _ _ _ k t2 (dy hw he rfl) hH he (λo a b=>hf o a (zag b g1)) hG hC λu μ' w' hu wI pS=>?_
   obtain ⟨p1,p2⟩:=q4 μ' tmps u (he.mono pS.le) hn hu
   exact (g2 t3 μ' B w' _ f wI p1 p2 (pS.eu hf d1) (pS.eE hH hG) (hC.mono pS.le)).mono λe w2 hp=>hp.later pS
theorem pT (hF:kL P F) (aD:cj P run) {g:uG} {fv:V} {ps:uD Nat} {a b:Code} {k:O Item} (hg:ev env g=some fv) (hh:lC F run cx fv ps.toList a b k env nx h ds=.v r):qy P cx ⟨.k (.code (.rangeFunc g ps a b)::k),env,nx,h,ds⟩ r:=by
 unfold lC at hh
 split at hh
 ·rename_i it cs
  split at hh
  ·split at hh
   ·rename_i fQ
    split at hh
    ·rename_i lj
     obtain ⟨h1,a1,a2⟩:=aS hh
     rw[aB] at a1
     obtain ⟨h2,b1,b2⟩:=aS a1
     rw[aB] at b1
     obtain ⟨v3,AU,h3,c1,c2,c3,c4⟩:=e7 hF aD b1
     split at c1
     ·rename_i fn0 n0 e0 ps0 a0 b0 hg3
      obtain ⟨h4,d1,d2⟩:=aS c1
      cases d1
      refine ⟨by simp only;omega,λv av h' ⟨g1,g2⟩=>⟨by simp only at g1 ⊢;omega,λ_ μ B w tmps f hH he hn hf hG hC=>?_⟩⟩
      simp only at g1
      have zO:=pR hC fQ
      rw[lj] at zO
      subst zO
      have hr:=au he hg
      generalize hu:Act.eval ⟨tmps,[]⟩ g=u at hr
      cases hr with
      | f _ qq =>
       rename_i vs
       have uJ:=hf nx (zab _) (by omega)
       obtain ⟨m1,m2⟩:=kx (x:=.d) (y:=.deferred (some [])) (ext:=0) (sz:=0) (w':=w.alloc (.deferred (some []))) hH uJ a2 (λcs e=>by cases e) rfl rfl rfl rfl (heap_alloc_new w _)
       have zP:=m2.eu hf (zce _)
       have wQ:=zP (nx+1) (zab _) (by omega)
       obtain ⟨m3,m4⟩:=kx (x:=.r true cx.fn cx.n env ps.toList a b) (y:=.loop { state:=.ready,pending:=none,fn:=cx.fn,tmps:=tmps,params:=ps,assign:=a,body:=b,defers:=w.heap.size }) (ext:=0) (sz:=0)
        (w':=(w.alloc (.deferred (some []))).alloc (.loop { state:=.ready,pending:=none,fn:=cx.fn,tmps:=tmps,params:=ps,assign:=a,body:=b,defers:=w.heap.size })) m1 wQ b2 (λcs e=>by cases e) rfl rfl rfl rfl
        ⟨_,heap_alloc_new _ _,hn,rfl,rfl,rfl,rfl,rfl,rfl,he.mono (m2.le.trans (Mp.gV wQ))⟩
       have zQ:=m4.eu zP (zce _)
       have dh:(w.alloc (.deferred (some []))).heap.size=w.heap.size+1:=Array.size_push _
       have hle:=m2.le.trans m4.le
       refine ag.rangeFunc (ps:=ps) hu c3 ?_
       have wR:=c4 _ B _ (.func (.yield (w.heap.size+1)) #[] #[]::vs) m3 (.cons (dh▸.y Mp.add_same) (qq.mono hle)) (λo x y=>zQ o x (by omega)) ((m2.trans m4).eE hH hG)
       have kC:(#[.func (.yield (w.heap.size+1)) #[] #[]]++⟨vs⟩:uD uB)=⟨.func (.yield (w.heap.size+1)) #[] #[]::vs⟩:=by apply zct;simp
       rw[kC]
       refine Calls.mono wR λe w2 ⟨u2,μ3,z1,z2,z3,z4⟩=>⟨⟨u2,z1⟩,?_⟩
       have nY:=z4.le (nx+1) _ Mp.add_same
       obtain ⟨zR,r1,lp,r2,r3,r4,r5,r6,r7,r8,r9,zN⟩:=z3.ob (nx+1) _ hg3
       rw[nY] at r1;cases r1
       rw[dh] at r2
       have ht:=z3.jb (h':=h4.get) (n:=AU) (w':={ w2 with heap:=w2.heap.setIfInBounds (w.heap.size+1) (.loop { lp with state:=.exhausted }) }) (x':=.g) hg3 rfl nY d2 (λcs e=>by cases e) (by simp) (λb hb=>by rw[dh] at hb;simp[zar,zbe hb]) rfl rfl rfl trivial
       refine ⟨_,?_,(g2 trivial μ3 B _ tmps ⟨cx.fn,[{ target:=.collected w.heap.size,args:=#[] }],none,false⟩ ht.1 (he.mono (hle.trans (z4.le.trans ht.2.le))) hn (ht.2.eu (z4.eu zQ c2) (zab _)) (((m2.trans m4).trans (z4.trans ht.2)).eE hH hG)
        ⟨rfl,lj.symm,by rw[fQ];trivial,.m ((m4.le.trans (z4.le.trans ht.2.le)) nx _ Mp.add_same) .nil⟩).mono λe w hp=>hp.later ((m2.trans m4).trans (z4.trans ht.2))⟩
       have bQ:(lp.state==LoopState.busy)=false:=by rw[r4];rfl
       have aP:(getObj (w.heap.size+1)).run P w2=.ok (.loop lp) w2:=by simp[getObj,Sem.run,r2]
       simp only[Instr.endLoop,Instr.getLoop,Sem.run_bind,aP,Result.andThen_ok,Sem.run_pure,bQ,zal,zcp,gZ r2,r5]
     ·cases c1
    ·cases hh
   ·cases hh
  ·cases hh
 ·cases hh
end step
def mg (h W:Hf):Hf:=λo=>match h o with
 | some x=>some x
 | none=>W o
theorem mJ {h W:Hf} {o:Nat} {x:Ob} (e:h o=some x):mg h W o=some x:=by unfold mg;rw[e]
theorem gn {h W:Hf} {o:Nat} (e:h o=none):mg h W o=W o:=by unfold mg;rw[e]
theorem frame {μ μ':Mp} {B n n':Nat} {h h' W:Hf} {w w':uC} (k:HR μ B W w) (hs:∀ o x,h o=some x->W o=some x) (k':HR μ' B h' w') (e:Ev μ h w μ' h' w' n n') :
  HR μ' B (mg h' W) w'/\Ev μ W w μ' (mg h' W) w' n n':=by
 have gC:∀ o,h' o=none->h o=none:=λo ho=>by
  cases hq:h o with
  | none=>rfl
  | some x=>exact absurd ho (e.lf o (by rw[hq];simp))
 have cz:∀ o x pl,h o=none->W o=some x->μ o=some pl->(live x=true∨pl.b<B)->¬ xw μ h pl.b:=λo x pl ho hx hp hl ⟨o2,x2,jT,a,b,c,d⟩=>by
  have aN:o2≠o:=λq=>by subst q;rw[ho] at a;cases a
  rcases hl with hl|hl
  ·exact k.sep o2 o x2 x jT pl aN (hs _ _ a) hx b hl c hp d
  ·have:=(k.low o2 x2 jT (hs _ _ a) b c).1
   omega
 have hb:∀ o x pl,h o=none->W o=some x->μ o=some pl->live x=true∨pl.b<B->w'.heap[pl.b]?=w.heap[pl.b]?:=λo x pl ho hx hp hl=>by
  refine e.frame pl.b ?_ (cz o x pl ho hx hp hl)
  rcases hl with hl|hl
  ·exact (k.low o x pl hx hl hp).2
  ·exact zag hl k.size
 have hW:∀ o x,mg h' W o=some x->h' o=some x∨(h' o=none/\W o=some x):=λo x hx=>by
  unfold mg at hx
  split at hx
  ·rename_i y hy;cases hx;exact .inl hy
  ·rename_i hy;exact .inr ⟨hy,hx⟩
 have vq:∀ o x pl,W o=some x->μ' o=some pl->μ o=some pl:=λo x pl hx hp=>by
  obtain ⟨q,h1,_⟩:=k.ob o x hx
  have:=e.le o q h1
  rw[hp] at this;cases this;exact h1
 refine ⟨⟨k'.size,λo x hx=>?_,λo x pl hx hl hp=>?_,λo cs pl hx hp=>?_,λo o2 x x2 pl jT aN hx zS hl oA hp vr=>?_⟩,e.le,e.new,e.os,e.tape,e.output,e.size,λb vf hn=>e.frame b vf λ⟨o,x,pl,a1,a2,a3,a4⟩=>hn ⟨o,x,pl,hs _ _ a1,a2,a3,a4⟩,λb vf ⟨o,x,pl,a1,a2,a3,a4⟩=>?_,e.nn,λo ho=>?_⟩
 ·rcases hW o x hx with h1|⟨h1,h2⟩
  ·exact k'.ob o x h1
  ·obtain ⟨pl,p1,p2⟩:=k.ob o x h2
   refine ⟨pl,e.le _ _ p1,?_⟩
   cases hl:live x with
   | true=>exact p2.mono e.le (hb o x pl (gC o h1) h2 p1 (.inl hl))
   | false =>
    cases x with
    | g=>trivial
    | k cs=>exact p2.mono e.le (hb o _ pl (gC o h1) h2 p1 (.inr (k.nX o cs pl h2 p1)))
    | _=>cases hl
 ·rcases hW o x hx with h1|⟨h1,h2⟩
  ·exact k'.low o x pl h1 hl hp
  ·have:=k.low o x pl h2 hl (vq o x pl h2 hp)
   exact ⟨this.1,zag this.2 e.size⟩
 ·rcases hW o _ hx with h1|⟨h1,h2⟩
  ·exact k'.nX o cs pl h1 hp
  ·exact k.nX o cs pl h2 (vq o _ pl h2 hp)
 ·have sR:∀ (o o2:Nat) (x x2:Ob) (pl jT:Pl),h' o=some x->h' o2=none->W o2=some x2->live x=true->live x2=true->μ' o=some pl->μ' o2=some jT->pl.b≠jT.b:=λo o2 x x2 pl jT h1 h2 h3 hl oA hp vr heq=>by
   have wS:=vq o2 x2 jT h3 vr
   have aG:=(k.low o2 x2 jT h3 oA wS).2
   exact cz o2 x2 jT (gC o2 h2) h3 wS (.inl oA) (e.fresh jT.b aG ⟨o,x,pl,h1,hl,hp,heq⟩)
  rcases hW o x hx with h1|⟨h1,h2⟩
  ·rcases hW o2 x2 zS with h3|⟨h3,h4⟩
   ·exact k'.sep o o2 x x2 pl jT aN h1 h3 hl oA hp vr
   ·exact sR o o2 x x2 pl jT h1 h3 h4 hl oA hp vr
  ·rcases hW o2 x2 zS with h3|⟨h3,h4⟩
   ·exact λq=>sR o2 o x2 x jT pl h3 h1 h2 oA hl vr hp q.symm
   ·exact k.sep o o2 x x2 pl jT aN h2 h4 hl oA (vq o x pl h2 hp) (vq o2 x2 jT h4 vr)
 ·rcases hW o x a1 with h1|⟨h1,h2⟩
  ·obtain ⟨o3,x3,zR,c1,c2,c3,c4⟩:=e.fresh b vf ⟨o,x,pl,h1,a2,a3,a4⟩
   exact ⟨o3,x3,zR,hs _ _ c1,c2,c3,c4⟩
  ·exact ⟨o,x,pl,h2,a2,vq o x pl h2 a3,a4⟩
 ·unfold mg
  cases h' o with
  | some x=>simp
  | none=>exact ho
theorem Ev.join {μ1 μ2 μ3:Mp} {h1 h2 h3:Hf} {w1 w2 w3:uC} {a b c d n n':Nat} (p:Ev μ1 h1 w1 μ2 h2 w2 a b) (q:Ev μ2 h2 w2 μ3 h3 w3 c d) (x1:n<=a) (x2:b<=n') (x3:n<=c) (x4:d<=n') (hn:n<=n'):Ev μ1 h1 w1 μ3 h3 w3 n n':=by
 refine ⟨p.le.trans q.le,λo e k=>?_,q.os.trans p.os,q.tape.trans p.tape,q.output.trans p.output,zau p.size q.size,λx hx hn=>?_,λx hx ho=>?_,hn,λo h=>q.lf o (p.lf o h)⟩
 ·cases e2:μ2 o with
  | none=>have:=q.new o e2 k;omega
  | some pl=>have:=p.new o e (by rw[e2];simp);omega
 ·rw[q.frame x (zag hx p.size) λho=>hn (p.fresh x hx ho),p.frame x hx hn]
 ·exact p.fresh x hx (q.fresh x (zag hx p.size) ho)
def hL (P:uF) (cx:Cx) (ds:List Df) (l:List Oper) (o:Oper) (env:Tr V) (h:Hf) (nx:Nat) (v:V) (av:Nat) (h':Hf):Prop :=
 nx<=av/\∀ μ B w tmps (f:Ctx) (K:Ending->uC->Prop) (i:Nat) (rest:List Nat) (k:List Item),l[i]?=some o ->
  HR μ B h w->ER μ env tmps->(∀ o,nx<=o->o<av->μ o=none)->aO B w->CR μ cx ds f ->
  (∀ u μ' w',R μ' v u->HR μ' B h' w'->Ev μ h w μ' h' w' nx av->ag P f K (.inRegion ⟨l⟩ rest::k) (Act.put ⟨tmps,[]⟩ o.dst u).tmps w')->ag P f K (.inRegion ⟨l⟩ (i::rest)::k) tmps w
theorem dc {P:uF} {cx:Cx} {ds:O Df} {l:O Oper} {o:Oper} {env:Tr V} {h h':Hf} {nx av:Nat} {v:V} (hw:fE l env o.guard=some true) (hd:kz P cx ds o env h nx v av h'):hL P cx ds l o env h nx v av h' :=
 ⟨hd.1,λμ B w tmps f K i rest k ho hH he hn hG hC hk=>hd.2 μ B w tmps f K ⟨l⟩ i rest k (by simpa using ho) (dy hw he rfl) hH he hn hG hC hk⟩
theorem nN {P:uF} {cx:Cx} {ds:O Df} {l:O Oper} {o:Oper} {env:Tr V} {h:Hf} {nx:Nat} (hw:fE l env o.guard=some false):hL P cx ds l o env h nx undef nx h :=
 ⟨zab _,λμ B w tmps f K i rest k ho hH he hn hG hC hk=>ag.cG (by simpa using ho) (dy hw he rfl) (hk Go.undef μ w (.t .nil) hH (.refl _ _ _ _))⟩
theorem HR.sub {μ:Mp} {B:Nat} {h W:Hf} {w:uC} (k:HR μ B W w) (hs:∀ o x,h o=some x->W o=some x):HR μ B h w :=
 ⟨k.size,λo x ho=>k.ob o x (hs o x ho),λo x pl ho=>k.low o x pl (hs o x ho),λo cs pl ho=>k.nX o cs pl (hs _ _ ho),λo o' x x' pl pl' aN h1 h2=>k.sep o o' x x' pl pl' aN (hs _ _ h1) (hs _ _ h2)⟩
section gen
variable {P:uF} {cx:Cx} {ds:List Df} {l:List Oper} {V0:Nat->V} {EN:Nat->Tr V} {N:Nat->Nat} {W:(Nat->Bool)->Hf} {env0:Tr V}
def cM (X:Nat->Bool) (i:Nat):Nat->Bool:=λj=>if j=i then true else X j
def sS (P:uF) (cx:Cx) (ds:List Df) (l:List Oper) (V0:Nat->V) (EN:Nat->Tr V) (N:Nat->Nat) (W:(Nat->Bool)->Hf) (i:Nat) (o:Oper) (X:Nat->Bool):Prop :=
 ∃ h h',hL P cx ds l o (EN i) h (N i) (V0 i) (N (i+1)) h'/\(∀ a x,h a=some x->W X a=some x) /\
  ((∀ a,N i<=a->a<N (i+1)->W X a=none)->(∀ a,h a≠none->h' a≠none)->∀ a,mg h' (W X) a=W (cM X i) a)
theorem ew (hN:∀ i,i<l.length->N i<=N (i+1)):∀ {i j:Nat},i<=j->j<=l.length->N i<=N j:=fun {i j} h1 h2=>by
 induction j with
 | zero =>
  have:i=0:=by omega
  subst this
  exact zab _
 | succ j ih =>
  by_cases e:i=j+1
  ·subst e;exact zab _
  ·exact zau (ih (by omega) (by omega)) (hN j (by omega))
def mK (l:List Oper) (V0:Nat->V) (env0:Tr V) (X:Nat->Bool) (μ:Mp) (tmps:uD uB):Prop :=
 ∀ s,(∀ j,j<l.length->X j=true->aj l j=some s->∃ u,tmps[s]?=some u/\R μ (V0 j) u)/\((∀ j,j<l.length->X j=true->aj l j≠some s)->∀ v,env0.get s=some v->∃ u,tmps[s]?=some u/\R μ v u)
theorem nO {B:Nat} {μ0:Mp} {h0:Hf} {w0:uC} {f:Ctx} {K:Ending->uC->Prop} {k:O Item}
  (vH:∀ i j t,i<l.length->j<l.length->i≠j->aj l i=some t->aj l j≠some t)
  (sg:∀ (i:Nat) o,i<l.length->l[i]?=some o->∀ t∈dU l o,∀ j,j<l.length->j≠i->aj l j=some t->(j<i/\((aE l []).getD i 0).testBit j=true)∨(i<j/\((aE l []).getD j 0).testBit i=true))
  (dq:∀ (i:Nat) o,l[i]?=some o->∀ e∈o.after,Region.binds .any e=true->e.on<i)
  (uQ:∀ (i:Nat) o t v,l[i]?=some o->(EN i).get t=some v->t∈dU l o/\((∃ j,j<i/\aj l j=some t/\V0 j=v)∨((∀ j,j<i->aj l j≠some t)/\env0.get t=some v)))
  (yX:∀ (i t:Nat),aj l i=some t->t<cx.n) (hN:∀ i,i<l.length->N i<=N (i+1))
  (hW:∀ X X',(∀ j,j<l.length->X j=X' j)->W X=W X')
  (gB:∀ (i:Nat) o X,l[i]?=some o->X i=false->(∀ j,((aE l []).getD i 0).testBit j=true->X j=true)->(∀ i' j,i'<l.length->X i'=true->((aE l []).getD i' 0).testBit j=true->X j=true)->sS P cx ds l V0 EN N W i o X)
  (tF:∀ μ w tmps,HR μ B (W λ_=>true) w->Ev μ0 h0 w0 μ (W λ_=>true) w (N 0) (N l.length)->cx.n<=tmps.size->mK l V0 env0 (λ_=>true) μ tmps->ag P f K k tmps w) :
  ∀ (nf fuel t:Nat) (listed:uD Bool) (μ:Mp) (w:uC) (tmps:uD uB),listed.size=l.length->fp l listed->(((List.range l.length).filter λi=>!listed.getD i true).length=nf)->nf<=fuel ->
   HR μ B (W λj=>listed.getD j false) w->Ev μ0 h0 w0 μ (W λj=>listed.getD j false) w (N 0) (N l.length)->(∀ i,i<l.length->listed.getD i false=false->∀ o,N i<=o->o<N (i+1)->μ o=none)->cx.n<=tmps.size->aO B w->CR μ cx ds f ->
   mK l V0 env0 (λj=>listed.getD j false) μ tmps->ag P f K (.inRegion ⟨l⟩ (Region.linearise.go .any ⟨l⟩ fuel t listed [])::k) tmps w:=by
 have ek:∀ listed:uD Bool,((List.range (⟨l⟩:uD Oper).size).filter λi=>!listed.getD i true && (((⟨l⟩:uD Oper)[i]?).map (·.after.all λe=>!Region.binds .any e || listed.getD e.on false)).getD false)=Region.ready .any ⟨l⟩ listed:=λ_=>rfl
 intro nf
 induction nf with
 | zero =>
  intro fuel t listed μ w tmps hs cJ jh oq hH pS vt hn hG hC hJ
  have bF:∀ i,i<l.length->listed.getD i true=true:=by
   intro i hi
   have h0:=zan jh
   have hn:i ∉ (List.range l.length).filter λi=>!listed.getD i true:=by rw[h0];simp
   rw[zbw,List.mem_range] at hn
   cases hb:listed.getD i true with
   | true=>rfl
   | false=>exact absurd ⟨hi,by simp[hb]⟩ hn
  have l7:∀ i,i<l.length->listed.getD i false=true:=λi hi=>by
   have:=bF i hi
   have aG:i<listed.size:=by omega
   simpa [zah,aG] using this
  have k5:Region.ready .any ⟨l⟩ listed=[]:=List.eq_nil_iff_forall_not_mem.2 λi hi=>by
   obtain ⟨h1,o,ho,_⟩:=mem_ready.1 hi
   have bK:=(zaa.1 (show l[i]?=some o by simpa using ho)).1
   rw[bF i bK] at h1
   cases h1
  have xS:Region.linearise.go .any ⟨l⟩ fuel t listed []=[]:=by
   cases fuel with
   | zero=>rfl
   | succ fuel=>simp only[Region.linearise.go,ek,k5];rfl
  rw[xS]
  have AV:(W λj=>listed.getD j false)=W λ_=>true:=hW _ _ l7
  rw[AV] at hH pS
  refine ag.iz (tF μ w tmps hH pS hn λs=>⟨λj hj _ hd=>(hJ s).1 j hj (l7 j hj) hd,λgC v hv=>(hJ s).2 (λj hj _=>gC j hj rfl) v hv⟩)
 | succ nf ih =>
  intro fuel t listed μ w tmps hs cJ jh oq hH pS vt hn hG hC hJ
  obtain ⟨fuel,rfl⟩:∃ n,fuel=n+1:=⟨fuel-1,by omega⟩
  have hex:∃ i,i<l.length/\listed.getD i true=false:=by
   have:(List.range l.length).filter (λi=>!listed.getD i true)≠[]:=λh=>by rw[h] at jh;simp at jh
   obtain ⟨i,hi⟩:=List.exists_mem_of_ne_nil _ this
   rw[zbw,List.mem_range] at hi
   exact ⟨i,hi.1,by simpa using hi.2⟩
  have tg:∀ i,i<l.length->listed.getD i false=listed.getD i true:=λi hi=>by
   have aG:i<listed.size:=by omega
   simp[zah,aG]
  have aN:Region.ready .any ⟨l⟩ listed≠[]:=by
   have th:∀ n i,i<=n->i<l.length->listed.getD i true=false->∃ i,i<l.length/\listed.getD i true=false/\∀ j,j<i->listed.getD j true=true:=by
    intro n
    induction n with
    | zero=>intro i hi bw h;exact ⟨i,bw,h,λj hj=>by omega⟩
    | succ n xU =>
     intro i hi bw h
     by_cases ng:∃ j,j<i/\listed.getD j true=false
     ·obtain ⟨j,hj,nh⟩:=ng
      exact xU j (by omega) (by omega) nh
     ·refine ⟨i,bw,h,λj hj=>?_⟩
      cases hb:listed.getD j true with
      | true=>rfl
      | false=>exact absurd ⟨j,hj,hb⟩ ng
   obtain ⟨i0,h0,h1⟩:=hex
   obtain ⟨i,bK,qt,jd⟩:=th i0 i0 (zab _) h0 h1
   have:i∈Region.ready .any ⟨l⟩ listed:=by
    rw[mem_ready]
    refine ⟨qt,l[i],by simp[bK],λe he hb=>?_⟩
    have aG:=dq i l[i] (zad bK) e he hb
    rw[tg _ (by omega)]
    exact jd _ aG
   intro na
   rw[na] at this
   cases this
  simp only[Region.linearise.go,ek]
  have hlen:0<(Region.ready .any ⟨l⟩ listed).length:=zda.2 aN
  have k9:=Nat.mod_lt t hlen
  generalize hi:(Region.ready .any ⟨l⟩ listed)[t % (Region.ready .any ⟨l⟩ listed).length]=i
  have j5:(Region.ready .any ⟨l⟩ listed)[t % (Region.ready .any ⟨l⟩ listed).length]?=some i:=by rw[zad k9,hi]
  rw[j5]
  simp only[]
  rw[linearise_go_acc]
  have xg:i∈Region.ready .any ⟨l⟩ listed:=zaq j5
  obtain ⟨qt,o,ho,bF⟩:=mem_ready.1 xg
  have bR:l[i]?=some o:=by simpa using ho
  have bK:=(zaa.1 bR).1
  have eM:=cW cJ bR (λe he hb=>bF e he hb)
  have xV:=ej cJ l [] (by simp) (by simp)
  have wT:listed.getD i false=false:=(tg i bK).trans qt
  have wU:∀ i' j,i'<l.length->listed.getD i' false=true->((aE l []).getD i' 0).testBit j=true->listed.getD j false=true:=λi' j _ hX hj=>by
   rw[zbh] at hj
   cases hm:(aE l [])[i']? with
   | none=>rw[hm] at hj;simp at hj
   | some m=>rw[hm] at hj;exact xV i' m hm hX j hj
  obtain ⟨h,h',hd,lQ,AW⟩:=gB i o (λj=>listed.getD j false) bR wT eM wU
  have AX:ER μ (EN i) tmps:=λt v hv=>by
   obtain ⟨iu,h1|⟨h1,h2⟩⟩:=uQ i o t v bR hv
   ·obtain ⟨j,hj,cm,rfl⟩:=h1
    rcases sg i o bK bR t iu j (by omega) (by omega) cm with ⟨_,h3⟩|⟨h3,_⟩
    ·exact (hJ t).1 j (by omega) (eM j h3) cm
    ·omega
   ·refine (hJ t).2 (λj hj hX cm=>?_) v h2
    by_cases aG:j<i
    ·exact h1 j aG cm
    ·by_cases he:j=i
     ·subst he;have hX:listed.getD j false=true:=hX;rw[wT] at hX;cases hX
     ·rcases sg i o bK bR t iu j hj he cm with ⟨h3,_⟩|⟨_,h3⟩
      ·omega
      ·have:=wU j i hj hX h3
       rw[wT] at this;cases this
  refine hd.2 μ B w tmps f K i _ k bR (hH.sub lQ) AX (vt i bK wT) hG hC λu μ' w' hu wI pU=>?_
  obtain ⟨zT,rM⟩:=frame hH lQ wI pU
  have AY:∀ a,N i<=a->a<N (i+1)->W (λj=>listed.getD j false) a=none:=λa h1 h2=>by
   cases hq:W (λj=>listed.getD j false) a with
   | none=>rfl
   | some x =>
    obtain ⟨pl,p1,_⟩:=hH.ob a x hq
    rw[vt i bK wT a h1 h2] at p1;cases p1
  have ji:∀ j,(listed.setIfInBounds i true).getD j false=cM (λj=>listed.getD j false) i j:=λj=>by
   unfold cM
   by_cases he:j=i
   ·subst he
    rw[zam rfl]
    simp[zah,show j<listed.size by omega]
   ·rw[zaj he];exact getD_set_ne false (zbe he)
  have yY:mg h' (W λj=>listed.getD j false)=W (λj=>(listed.setIfInBounds i true).getD j false):=by
   rw[show (λj=>(listed.setIfInBounds i true).getD j false)=cM (λj=>listed.getD j false) i from funext ji]
   exact funext (AW AY pU.lf)
  rw[yY] at zT rM
  have AZ:cx.n<=(Act.put ⟨tmps,[]⟩ o.dst u).tmps.size:=by
   cases zU:o.dst with
   | none=>exact hn
   | some s=>simpa [Act.put] using hn
  have ou:((List.range l.length).filter λj=>!(listed.setIfInBounds i true).getD j true).length=nf:=by
   have ji:∀ j,(listed.setIfInBounds i true).getD j true=(listed.getD j true || decide (j=i)):=by
    intro j
    by_cases ct:j=i
    ·subst ct;simp[zah,hs,bK]
    ·rw[getD_set_ne true (zbe ct)];simp[ct]
   have tp:((List.range l.length).filter λj=>!(listed.setIfInBounds i true).getD j true)=((List.range l.length).filter λj=>!listed.getD j true).filter λj=>!decide (j=i):=by
    rw[List.filter_filter]
    refine List.filter_congr λj _=>?_
    rw[ji j]
    cases listed.getD j true<;>simp
   rw[tp]
   have vd:((List.range l.length).filter λj=>!listed.getD j true).Nodup:=List.nodup_range.filter _
   have k6:i∈(List.range l.length).filter λj=>!listed.getD j true:=by rw[zbw,List.mem_range];exact ⟨bK,by simp[qt]⟩
   have lb:∀ (L:O Nat),L.Nodup->i∈L->(L.filter λj=>!decide (j=i)).length+1=L.length:=by
    intro L
    induction L with
    | nil=>intro _ h;cases h
    | cons a L xW =>
     intro hn hm
     rw[List.nodup_cons] at hn
     by_cases ha:a=i
     ·subst ha
      have:(L.filter λj=>!decide (j=a))=L:=by
       rw[zdb]
       intro b hb
       have:b≠a:=λe=>hn.1 (e▸hb)
       simp[this]
      rw[zca]
      simp[this]
     ·have nV:i∈L:=by
       rcases zbi.1 hm with h|h
       ·exact absurd h.symm ha
       ·exact h
      rw[zca]
      simp only[ha,decide_false,Bool.not_false,zcf,zbc]
      rw[xW hn.2 nV]
   have:=lb _ vd k6
   omega
  refine ih fuel _ _ μ' w' _ (by simpa using hs) ?_ ?_ (by omega) zT (pS.join rM (zab _) (zab _) (ew hN (zba _) (by omega)) (ew hN (by omega) (zab _)) (ew hN (zba _) (zab _))) ?_ AZ (rM.eE hH hG) (hC.mono rM.le) ?_
  ·intro i' o1 yZ sf e he hb
   by_cases zV:i'=i
   ·subst zV
    rw[bR] at yZ;cases yZ
    exact getD_set_true (bF e he hb)
   ·rw[getD_set_ne false (zbe zV)] at sf
    exact getD_set_true (cJ i' o1 yZ sf e he hb)
  ·exact ou
  ·intro i' fZ hX a h1 h2
   rw[ji] at hX
   unfold cM at hX
   split at hX
   ·cases hX
   ·rename_i gD
    have hm:=vt i' fZ hX a h1 h2
    cases hq:μ' a with
    | none=>rfl
    | some pl =>
     have:=pU.new a hm (by rw[hq];simp)
     rcases Nat.lt_or_ge i' i with aG|qp
     ·have:=ew hN (show i'+1<=i by omega) (by omega)
      omega
     ·have:=ew hN (show i+1<=i' by omega) (by omega)
      omega
  ·intro s
   have rl:∀ s,(Act.put ⟨tmps,[]⟩ o.dst u).tmps[s]?=if aj l i=some s then some u else tmps[s]?:=λs=>by
    have sT:aj l i=o.dst:=by simp[aj,bR]
    rw[sT]
    cases zU:o.dst with
    | none=>simp[Act.put]
    | some s' =>
     have aG:=yX i s' (sT.trans zU)
     show (tmps.setIfInBounds s' u)[s]?=_
     by_cases he:s'=s
     ·subst he;rw[zam rfl,zcq (by omega)]
     ·rw[zaj (by simpa using he),Array.getElem?_setIfInBounds_ne he]
   refine ⟨λj hj hX cm=>?_,λgC v hv=>?_⟩
   ·rw[rl]
    by_cases ct:j=i
    ·subst ct;rw[zam cm];exact ⟨u,rfl,hu⟩
    ·have A0:listed.getD j false=true:=by
      have:=hX
      simp only[ji,cM,zaj ct] at this
      exact this
     rw[zaj (vH j i s hj bK ct cm)]
     obtain ⟨y,y1,y2⟩:=(hJ s).1 j hj A0 cm
     exact ⟨y,y1,y2.mono pU.le⟩
   ·rw[rl]
    have y3:aj l i≠some s:=gC i bK (by simp only[ji,cM];simp)
    rw[zaj y3]
    obtain ⟨y,y1,y2⟩:=(hJ s).2 (λj hj hX=>gC j hj (by simp only[ji,cM];split<;>simp_all)) v hv
    exact ⟨y,y1,y2.mono pU.le⟩
end gen
theorem mL (m j:Nat):tb m j=m.testBit j:=by
 rw[Nat.testBit_eq_decide_div_mod_eq]
 unfold tb
 by_cases h:m / 2 ^ j % 2=1
 ·simp only[h,decide_true]
  show Nat.beq (m / 2 ^ j % 2) 1=true
  rw[h];rfl
 ·simp only[h,decide_false]
  show Nat.beq (m / 2 ^ j % 2) 1=false
  cases hb:Nat.beq (m / 2 ^ j % 2) 1 with
  | false=>rfl
  | true=>exact absurd (zae hb) h
theorem kD:∀ {a b:O Nat},oL a b=true->a=b
 | [],[],_=>rfl
 | x::a,y::b,h=>by
  unfold oL at h
  split at h
  ·rename_i hb;rw[zae hb,kD h]
  ·cases h
 | [],_::_,h=>by cases h
 | _::_,[],h=>by cases h
theorem pV {a b:uB} (h:oX a b=true):a=b:=by
 unfold oX at h
 split at h
 ·split at h
  ·rename_i hj;rw[zaw hj,zaw h]
  ·cases h
 ·rw[eq_of_beq h]
 all_goals first|rfl|cases h
theorem pW {a b:J Nat} (h:oY a b=true):a=b:=by
 unfold oY at h
 split at h
 ·rfl
 ·rw[zae h]
 ·cases h
mutual
theorem kE:∀ {a b:V},bH a b=true->a=b
 | .c a,b,h=>by cases b<;>simp only[bH,zal] at h;rw[pV h]
 | .s a,b,h=>by cases b<;>simp only[bH,zal] at h;rw[kD h]
 | .p a b,c,h=>by
  cases c<;>simp only[bH,zal,zaf] at h
  rw[zae h.1,zae h.2]
 | .l a b c d,e,h=>by
  cases e<;>simp only[bH,zal,zaf] at h
  rw[zae h.1.1.1,zae h.1.1.2,zae h.1.2,pW h.2]
 | .z,b,h=>by cases b<;>simp only[bH,zal] at h;rfl
 | .m a,b,h=>by cases b<;>simp only[bH,zal] at h;rw[zae h]
 | .y a,b,h=>by cases b<;>simp only[bH,zal] at h;rw[zae h]
 | .f a b,c,h=>by
  cases c<;>simp only[bH,zal,zaf] at h
  rw[zae h.1,dN h.2]
 | .a a,b,h=>by cases b<;>simp only[bH,zal] at h;rw[dN h]
 | .t a,b,h=>by cases b<;>simp only[bH,zal] at h;rw[dN h]
theorem dN:∀ {a b:O V},du a b=true->a=b
 | [],[],_=>rfl
 | x::a,y::b,h=>by
  simp only[du,zaf] at h
  rw[kE h.1,dN h.2]
 | [],_::_,h=>by simp[du] at h
 | _::_,[],h=>by simp[du] at h
end
structure fU where
 V0:Nat->V
 EN:Nat->Tr V
 N:Nat->Nat
 cp:Nat->Option (Tr Ob)
 al:Nat->Option (Nat×Ob)
def one (a:Nat) (ob:Ob):Hf:=λj=>if j=a then some ob else none
def AL (D:fU) (X:Nat->Bool):Nat->Hf
 | 0=>λ_=>none
 | n+1=>match X n with
  | true=>match D.al n with
   | some (a,ob)=>mg (one a ob) (AL D X n)
   | none=>AL D X n
  | false=>AL D X n
def EK (D:fU) (h0:Tr Ob) (X:Nat->Bool):Nat->Tr Ob
 | 0=>h0
 | n+1=>match X n with
  | true=>match D.cp n with
   | some H=>H
   | none=>EK D h0 X n
  | false=>EK D h0 X n
noncomputable def Wd (D:fU) (h0:Tr Ob) (n:Nat) (X:Nat->Bool):Hf:=mg (EK D h0 X n).get (AL D X n)
def aV (D:fU):Nat->List (Nat×Tr Ob)
 | 0=>[]
 | n+1=>match D.cp n with
  | some H=>(n,H)::aV D n
  | none=>aV D n
def iw (D:fU):Nat->List (Nat×Nat×Ob)
 | 0=>[]
 | n+1=>match D.al n with
  | some (a,ob)=>(n,a,ob)::iw D n
  | none=>iw D n
def eA:Nat->Bool:=λ_=>true
theorem e8 {D:fU} {h0:Tr Ob}:∀ n,lB h0 (aV D n)=EK D h0 eA n
 | 0=>rfl
 | n+1=>by
  unfold aV EK
  cases hq:D.cp n with
  | some H=>simp only[lB,eA]
  | none=>simp only[eA];exact e8 n
def lR (D:fU) (n:Nat):Prop:=∀ i j a ob kM,i<n->j<n->D.al i=some (a,ob)->D.al j=some (a,kM)->i=j
theorem dA {D:fU} {X:Nat->Bool}:∀ {n:Nat},lR D n->∀ {a:Nat} {ob:Ob},AL D X n a=some ob↔∃ j,j<n/\X j=true/\D.al j=some (a,ob)
 | 0,hu,a,ob=>by simp[AL]
 | n+1,hu,a,ob=>by
  have tc:lR D n:=λi j a ob kM hi hj=>hu i j a ob kM (by omega) (by omega)
  have ih:=dA (X:=X) tc (a:=a) (ob:=ob)
  have old:AL D X n a=some ob->∃ j,j<n+1/\X j=true/\D.al j=some (a,ob):=λh=>by
   obtain ⟨j,h1,h2,h3⟩:=ih.1 h
   exact ⟨j,by omega,h2,h3⟩
  unfold AL
  cases hX:X n with
  | false =>
   simp only[]
   refine ⟨old,λ⟨j,h1,h2,h3⟩=>ih.2 ⟨j,?_,h2,h3⟩⟩
   have:j≠n:=λe=>by subst e;rw[hX] at h2;cases h2
   omega
  | true =>
   simp only[]
   cases hq:D.al n with
   | none =>
    simp only[]
    refine ⟨old,λ⟨j,h1,h2,h3⟩=>ih.2 ⟨j,?_,h2,h3⟩⟩
    have:j≠n:=λe=>by subst e;rw[hq] at h3;cases h3
    omega
   | some p =>
    obtain ⟨b,kM⟩:=p
    simp only[]
    by_cases cE:a=b
    ·subst cE
     have:mg (one a kM) (AL D X n) a=some kM:=mJ (by simp[one])
     rw[this]
     refine ⟨λh=>?_,λ⟨j,h1,h2,h3⟩=>?_⟩
     ·cases h;exact ⟨n,by omega,hX,hq⟩
     ·have:=hu j n a ob kM h1 (by omega) h3 hq
      subst this
      rw[hq] at h3;cases h3;rfl
    ·rw[gn (by simp[one,cE])]
     refine ⟨old,λ⟨j,h1,h2,h3⟩=>ih.2 ⟨j,?_,h2,h3⟩⟩
     have:j≠n:=λe=>by subst e;rw[hq] at h3;cases h3;exact cE rfl
     omega
def mk (l:List Oper) (j:Nat):Nat:=(aE l []).getD j 0
inductive pX (P:uF) (cx:Cx) (ds:List Df) (l:List Oper) (D:fU) (h0:Tr Ob) (n j:Nat) (o:Oper):Prop
 | quiet (e1:D.cp j=none) (e2:D.al j=none) (e3:D.N (j+1)=D.N j) (hd:∀ hf,hL P cx ds l o (D.EN j) hf (D.N j) (D.V0 j) (D.N j) hf)
 | alloc (ob:Ob) (e1:D.cp j=none) (e2:D.al j=some (D.N j,ob)) (e3:D.N (j+1)=D.N j+1) (hd:∀ hf h',(∀ a,h' a=if a=D.N j then some ob else hf a)->hL P cx ds l o (D.EN j) hf (D.N j) (D.V0 j) (D.N j+1) h')
 | effect (H hp:Tr Ob) (e1:D.cp j=some H) (e2:D.al j=none) (hd:hL P cx ds l o (D.EN j) hp.get (D.N j) (D.V0 j) (D.N (j+1)) H.get) (hc:∀ q,q<j->D.cp q≠none->(mk l j).testBit q=true)
   (hs:∀ a,hp.get a=mg (EK D h0 eA j).get (AL D (λq=>(mk l j).testBit q) j) a)
 | reader (e1:D.cp j=none) (e2:D.al j=none) (e3:D.N (j+1)=D.N j) (hd:∀ p,p<=n->(∀ q,q<p->D.cp q≠none->(mk l q).testBit j=false)->(∀ q,p<=q->q<n->D.cp q≠none->(mk l j).testBit q=false) ->
   ∃ H':Tr Ob,hL P cx ds l o (D.EN j) H'.get (D.N j) (D.V0 j) (D.N j) H'.get/\∀ a,H'.get a=mg (EK D h0 eA p).get (AL D (λq=>(mk l j).testBit q) j) a)
section facts
variable {P:uF} {cx:Cx} {ds:List Df} {l:List Oper} {D:fU} {h0:Tr Ob} {n:Nat}
theorem pX.mono {j:Nat} {o:Oper} (h:pX P cx ds l D h0 n j o):D.N j<=D.N (j+1):=by
 cases h with
 | quiet e1 e2 e3 hd=>omega
 | alloc ob e1 e2 e3 hd=>omega
 | effect H hp e1 e2 hd hc hs=>exact hd.1
 | reader e1 e2 e3 hd=>omega
theorem gp {X:Nat->Bool} {n:Nat} (hq:D.cp n=none):EK D h0 X (n+1)=EK D h0 X n:=by
 have:EK D h0 X (n+1)=(match X n with|true=>(match D.cp n with|some H=>H|none=>EK D h0 X n)|false=>EK D h0 X n):=rfl
 rw[this,hq];cases X n<;>rfl
theorem mM {X X':Nat->Bool}:∀ {n:Nat},(∀ j,j<n->D.cp j≠none->X j=X' j)->EK D h0 X n=EK D h0 X' n
 | 0,h=>rfl
 | n+1,h=>by
  have ih:=mM (n:=n) (X:=X) (X':=X') λj hj=>h j (by omega)
  unfold EK
  cases hq:D.cp n with
  | none=>cases X n<;>cases X' n<;>exact ih
  | some H =>
   rw[←h n (by omega) (by rw[hq];simp)]
   cases X n with
   | true=>rfl
   | false=>exact ih
theorem e9 {X:Nat->Bool} {i:Nat} {H:Tr Ob} (hi:D.cp i=some H) (hX:X i=true):∀ {n:Nat},i<n->(∀ q,i<q->q<n->D.cp q≠none->X q=false)->EK D h0 X n=H
 | 0,h,_=>by omega
 | n+1,h,hq=>by
  unfold EK
  by_cases e:i=n
  ·subst e;rw[hX,hi]
  ·have ih:=e9 hi hX (n:=n) (by omega) λq a b=>hq q a (by omega)
   cases A1:X n with
   | false=>exact ih
   | true =>
    cases he:D.cp n with
    | none=>exact ih
    | some H' =>
     have:=hq n (by omega) (by omega) (by rw[he];simp)
     rw[A1] at this;cases this
theorem pY {X:Nat->Bool}:∀ {n:Nat},(∀ j q,j<n->q<j->D.cp j≠none->D.cp q≠none->X j=true->X q=true) ->
  ∃ p,p<=n/\EK D h0 X n=EK D h0 eA p/\(∀ q,q<p->D.cp q≠none->X q=true)/\(∀ q,p<=q->q<n->D.cp q≠none->X q=false)
 | 0,h=>⟨0,zab _,rfl,λq hq=>by omega,λq a b=>by omega⟩
 | n+1,h=>by
  obtain ⟨p,p1,p2,p3,p4⟩:=pY (n:=n) (X:=X) λj q a b c d e=>h j q (by omega) b c d e
  cases hq:D.cp n with
  | none =>
   have e1:EK D h0 X (n+1)=EK D h0 X n:=by
    have:EK D h0 X (n+1)=(match X n with|true=>(match D.cp n with|some H=>H|none=>EK D h0 X n)|false=>EK D h0 X n):=rfl
    rw[this,hq];cases X n<;>rfl
   refine ⟨p,by omega,e1.trans p2,p3,λq a b c=>?_⟩
   by_cases e:q=n
   ·subst e;exact absurd hq c
   ·exact p4 q a (by omega) c
  | some H =>
   cases hX:X n with
   | true =>
    refine ⟨n+1,zab _,?_,λq a c=>?_,λq a b=>by omega⟩
    ·have e1:EK D h0 X (n+1)=H:=e9 hq hX (by omega) λq a b=>by omega
     have e2:EK D h0 eA (n+1)=H:=e9 hq rfl (by omega) λq a b=>by omega
     rw[e1,e2]
    ·by_cases e:q=n
     ·subst e;exact hX
     ·exact h n q (by omega) (by omega) (by rw[hq];simp) c hX
   | false =>
    have e1:EK D h0 X (n+1)=EK D h0 X n:=by
     have:EK D h0 X (n+1)=(match X n with|true=>(match D.cp n with|some H=>H|none=>EK D h0 X n)|false=>EK D h0 X n):=rfl
     rw[this,hX]
    refine ⟨p,by omega,e1.trans p2,p3,λq a b c=>?_⟩
    by_cases e:q=n
    ·subst e;exact hX
    ·exact p4 q a (by omega) c
theorem jH {X X':Nat->Bool} (hu:lR D n) {m a:Nat} {ob:Ob} (hm:m<=n) (h:AL D X m a=some ob) (hX:∀ j,j<m->X j=true->X' j=true):AL D X' n a=some ob:=by
 obtain ⟨j,h1,h2,h3⟩:=(dA (λi j a ob kM hi hj=>hu i j a ob kM (by omega) (by omega))).1 h
 exact (dA hu).2 ⟨j,by omega,hX j h1 h2,h3⟩
theorem jI {X X':Nat->Bool} (hu:lR D n) (h:∀ j,j<n->D.al j≠none->X j=X' j) (a:Nat):AL D X n a=AL D X' n a:=by
 have key:∀ {X X':Nat->Bool},(∀ j,j<n->D.al j≠none->X j=X' j)->∀ ob,AL D X n a=some ob->AL D X' n a=some ob:=λh ob ho=>by
  obtain ⟨j,h1,h2,h3⟩:=(dA hu).1 ho
  exact (dA hu).2 ⟨j,h1,by rw[←h j h1 (by rw[h3];simp)];exact h2,h3⟩
 cases h1:AL D X n a with
 | some ob=>exact (key h ob h1).symm
 | none =>
  cases h2:AL D X' n a with
  | none=>rfl
  | some ob=>have:=key (λj a b=>(h j a b).symm) ob h2;rw[h1] at this;cases this
theorem wV (bF:∀ j o,l[j]?=some o->pX P cx ds l D h0 l.length j o) (hu:lR D l.length) (i:Nat) (o:Oper) (X:Nat->Bool) (ho:l[i]?=some o) (y4:X i=false) (hm:∀ j,(mk l i).testBit j=true->X j=true)
  (cJ:∀ i' j,i'<l.length->X i'=true->(mk l i').testBit j=true->X j=true):sS P cx ds l D.V0 D.EN D.N (Wd D h0 l.length) i o X:=by
 have bK:=(zaa.1 ho).1
 have qs:∀ j q,j<l.length->q<j->D.cp j≠none->D.cp q≠none->(mk l j).testBit q=true:=λj q hj hq h1 h2=>by
  cases bF j l[j] (zad hj) with
  | quiet e1=>exact absurd e1 h1
  | alloc ob e1=>exact absurd e1 h1
  | effect H hp e1 e2 hd hc hs=>exact hc q hq h2
  | reader e1=>exact absurd e1 h1
 obtain ⟨p,p1,p2,p3,p4⟩:=pY (D:=D) (h0:=h0) (X:=X) (n:=l.length) λj q hj hq h1 h2 hX=>cJ j q hj hX (qs j q hj hq h1 h2)
 have vv:∀ j,j≠i->cM X i j=X j:=λj hj=>by unfold cM;rw[zaj hj]
 have wW:cM X i i=true:=by unfold cM;rw[zam rfl]
 have nothing:D.cp i=none->D.al i=none->∀ a,Wd D h0 l.length (cM X i) a=Wd D h0 l.length X a:=λh1 h2 a=>by
  unfold Wd mg
  rw[mM (X:=cM X i) (X':=X) λj hj he=>vv j λe=>by subst e;exact he h1,jI hu (X:=cM X i) (X':=X) (λj hj he=>vv j λe=>by subst e;exact he h2) a]
 cases bF i o ho with
 | quiet e1 e2 e3 hd =>
  refine ⟨λ_=>none,λ_=>none,by rw[e3];exact hd _,λa x h=>by (cases h),λ_ _ a=>?_⟩
  rw[nothing e1 e2];exact gn rfl
 | alloc ob e1 e2 e3 hd =>
  refine ⟨λ_=>none,one (D.N i) ob,by rw[e3];exact hd _ _ λa=>rfl,λa x h=>by (cases h),λvt _ a=>?_⟩
  have hE:EK D h0 (cM X i) l.length=EK D h0 X l.length:=mM λj hj he=>vv j λe=>by subst e;exact he e1
  by_cases ha:a=D.N i
  ·subst ha
   rw[mJ (x:=ob) (by simp[one])]
   have hw:=vt (D.N i) (zab _) (by omega)
   unfold Wd mg at hw
   split at hw
   ·cases hw
   ·rename_i hn
    unfold Wd
    rw[hE,gn hn]
    exact ((dA hu).2 ⟨i,bK,wW,e2⟩).symm
  ·rw[gn (by simp[one,ha])]
   unfold Wd mg
   rw[hE]
   have:AL D X l.length a=AL D (cM X i) l.length a:=by
    cases h1:AL D X l.length a with
    | some kM =>
     exact (jH hu (zab _) h1 λj _ hj=>by unfold cM;split<;>first|rfl|exact hj).symm
    | none =>
     cases h2:AL D (cM X i) l.length a with
     | none=>rfl
     | some kM =>
      obtain ⟨j,j1,j2,j3⟩:=(dA hu).1 h2
      have ct:j≠i:=λe=>by subst e;rw[e2] at j3;cases j3;exact ha rfl
      rw[vv j ct] at j2
      have:=(dA hu).2 ⟨j,j1,j2,j3⟩
      rw[h1] at this;cases this
   rw[this]
 | effect H hp e1 e2 hd hc hs =>
  have zW:EK D h0 X l.length=EK D h0 eA i:=by
   rw[p2]
   have BB:p<=i:=by
    rcases Nat.lt_or_ge i p with h|h
    ·have:=p3 i h (by rw[e1];simp)
     rw[y4] at this;cases this
    ·exact h
   clear hs hd
   have:∀ d,p+d<=i->EK D h0 eA (p+d)=EK D h0 eA p:=by
    intro d
    induction d with
    | zero=>intro _;rfl
    | succ d ih =>
     intro hd
     rw[←ih (by omega)]
     have hn:D.cp (p+d)=none:=by
      cases hq:D.cp (p+d) with
      | none=>rfl
      | some H' =>
       have h1:=p4 (p+d) (by omega) (by omega) (by rw[hq];simp)
       have h2:=hm (p+d) (hc (p+d) (by omega) (by rw[hq];simp))
       rw[h1] at h2;cases h2
     exact gp hn
   have:=this (i-p) (by omega)
   rw[show p+(i-p)=i by omega] at this
   exact this.symm
  refine ⟨hp.get,H.get,hd,λa x h=>?_,λ_ hk a=>?_⟩
  ·rw[hs a] at h
   unfold Wd
   rw[zW]
   unfold mg at h ⊢
   split at h
   ·cases h;rfl
   ·exact jH hu (by omega) h λj hj hb=>hm j hb
  ·have A2:EK D h0 (cM X i) l.length=H:=e9 e1 wW bK λq a b c=>by
    rw[vv q (by omega)]
    cases A3:X q with
    | false=>rfl
    | true =>
     have:=cJ q i b A3 (qs q i b a c (by rw[e1];simp))
     rw[y4] at this;cases this
   unfold Wd
   rw[A2]
   unfold mg
   cases A4:H.get a with
   | some x=>rfl
   | none =>
    have xE:hp.get a=none:=by
     cases hq:hp.get a with
     | none=>rfl
     | some x=>exact absurd A4 (hk a (by rw[hq];simp))
    have A5:(EK D h0 X l.length).get a=none:=by
     rw[zW]
     rw[hs a] at xE
     unfold mg at xE
     split at xE
     ·cases xE
     ·rename_i hy;exact hy
    simp only[A5]
    exact jI hu (λj hj he=>(vv j λe=>by subst e;exact he e2).symm) a
 | reader e1 e2 e3 hd =>
  obtain ⟨H',d1,d2⟩:=hd p p1 (λq a b=>by
    cases hq:(mk l q).testBit i with
    | false=>rfl
    | true =>
     have:=cJ q i (by omega) (p3 q a b) hq
     rw[y4] at this;cases this) (λq a b c=>by
    cases hq:(mk l i).testBit q with
    | false=>rfl
    | true =>
     have:=hm q hq
     rw[p4 q a b c] at this;cases this)
  have lQ:∀ a x,H'.get a=some x->Wd D h0 l.length X a=some x:=λa x h=>by
   rw[d2 a] at h
   unfold Wd
   rw[p2]
   unfold mg at h ⊢
   split at h
   ·cases h;rfl
   ·exact jH hu (by omega) h λj hj hb=>hm j hb
  refine ⟨H'.get,H'.get,by rw[e3];exact d1,lQ,λ_ _ a=>?_⟩
  rw[nothing e1 e2]
  unfold mg
  cases hq:H'.get a with
  | some x=>exact (lQ a x hq).symm
  | none=>rfl
end facts
end Go.CI
namespace Go.CI
open Go.RowKit
open Go.Abs
theorem wX {l:O Oper} (dq:∀ (i:Nat) o,l[i]?=some o->∀ e∈o.after,Region.binds .any e=true->e.on<i) {i j:Nat} {o:Oper} (ho:l[i]?=some o) (h:(mk l i).testBit j=true):j<i:=by
 have hD:∀ k,(Array.replicate i true).getD k false=decide (k<i):=λk=>by
  rw[zah,Array.getElem?_replicate]
  by_cases hk:k<i<;>simp[hk]
 have:=cW (ops:=l) (listed:=Array.replicate i true) (λi' o' h1 h2 e he hb=>by
  rw[hD] at h2 ⊢
  have:=dq i' o' h1 e he hb
  simp at h2 ⊢
  omega) ho (λe he hb=>by rw[hD];simpa using dq i o ho e he hb) j h
 rw[hD] at this
 simpa using this
theorem pZ {D:fU} {X:Nat->Bool} {q:Nat} (hX:∀ j,X j=true->j<q):∀ {n:Nat},q<=n->AL D X n=AL D X q
 | 0,h=>by rw[show q=0 by omega]
 | n+1,h=>by
  by_cases e:q=n+1
  ·rw[e]
  ·rw[←pZ hX (n:=n) (by omega)]
   have:AL D X (n+1)=(match X n with|true=>(match D.al n with|some (a,ob)=>mg (one a ob) (AL D X n)|none=>AL D X n)|false=>AL D X n):=rfl
   rw[this]
   cases hq:X n with
   | false=>rfl
   | true=>have:=hX n hq;omega
section pass
variable {P:uF} {T:Tr TI} {F:Tr Func} {E:Nat->Option (List V->Tr Ob->(V->X S1)->X S1)} {run:Cx->FZ->(V->Nat->Tr Ob->X S1)->X S1} {r:S1} {cx:Cx} {ds:List Df} {l:List Oper} {h0:Tr Ob}
theorem jJ:∀ {ts:O Nat} {env t:Tr V} {k:Tr V->X S1},kp env ts t k=.v r->∃ t',k t'=.v r/\∀ s v,t'.get s=some v->(s∈ts/\env.get s=some v)∨t.get s=some v
 | [],env,t,k,hh=>⟨t,hh,λs v h=>.inr h⟩
 | a::ts,env,t,k,hh=>by
  unfold kp at hh
  split at hh
  ·rename_i x hx
   obtain ⟨t1,q1,q2⟩:=aS hh
   obtain ⟨t',q3,q4⟩:=jJ q1
   refine ⟨t',q3,λs v h=>?_⟩
   rcases q4 s v h with ⟨h1,h2⟩|h1
   ·exact .inl ⟨zby _ h1,h2⟩
   ·rw[q2 s] at h1
    by_cases e:s=a
    ·subst e;rw[zam rfl] at h1;cases h1;exact .inl ⟨by simp,hx⟩
    ·rw[zaj e] at h1;exact .inr h1
  ·obtain ⟨t',q3,q4⟩:=jJ hh
   exact ⟨t',q3,λs v h=>(q4 s v h).imp (λ⟨a,b⟩=>⟨zby _ a,b⟩) id⟩
theorem jK {m:Nat->Bool}:∀ {al:O (Nat×Nat×Ob)} {h:Tr Ob} {k:Tr Ob->X S1},dQ m al h k=.v r->∃ h',k h'=.v r
 | [],h,k,hh=>⟨h,hh⟩
 | (j,a,ob)::al,h,k,hh=>by
  unfold dQ at hh
  split at hh
  ·split at hh
   ·exact jK hh
   ·obtain ⟨h1,q1,_⟩:=aS hh
    exact jK q1
  ·exact jK hh
def qa (T:Tr TI) (l:List Oper) (i:Nat):Rd->Prop
 | .mk q m _ g _=>q<i/\m=mk l q/\∃ o,l[q]?=some o/\act T o.op=.rd g
theorem wY (hT:bA P T) {op:Op} {g:Tr V->Tr Ob->(V->X S1)->X S1} (ha:act T op=.rd g) {e:Tr V} {v:V} {m:Nat->Bool} {al:List (Nat×Nat×Ob)} {H:Tr Ob} {Z:X S1} {n:Nat}
  (hh:(dQ m al H λh=>g e h λu=>match bH v u with|true=>Z|false=>no n)=.v r):Z=.v r:=by
 obtain ⟨h',q1⟩:=jK hh
 obtain ⟨u,q2,_⟩:=jB (P:=P) hT ha q1
 split at q2
 ·exact q2
 ·cases q2
theorem hO (hT:bA P T) {i:Nat} {me:Nat} {al:List (Nat×Nat×Ob)} {H:Tr Ob} {k:X S1}:∀ {dI:List Rd},(∀ rd∈dI,qa T l i rd)->gR me al H k dI=.v r->k=.v r/\∀ q m e g v,Rd.mk q m e g v∈dI->tb me q=false ->
  ∃ Z,(dQ (tb m) al H λh=>g e h λu=>match bH v u with|true=>Z|false=>no 201)=.v r
 | [],hw,hh=>⟨hh,λq m e g v h=>by cases h⟩
 | .mk i' m e g v::dI,hw,hh=>by
  have xF:∀ rd∈dI,qa T l i rd:=λrd ek=>hw rd (zby _ ek)
  unfold gR at hh
  cases ht:tb me i' with
  | true =>
   rw[ht] at hh
   obtain ⟨a,b⟩:=hO hT xF hh
   refine ⟨a,λq m' e' g' v' hm hq=>?_⟩
   rcases zbi.1 hm with h|h
   ·cases h;rw[ht] at hq;cases hq
   ·exact b q m' e' g' v' h hq
  | false =>
   rw[ht] at hh
   simp only at hh
   obtain ⟨_,_,o,ho,ha⟩:=hw (.mk i' m e g v) (by simp)
   have hk:=wY (P:=P) hT ha hh
   obtain ⟨a,b⟩:=hO hT xF hk
   refine ⟨a,λq m' e' g' v' hm hq=>?_⟩
   rcases zbi.1 hm with h|h
   ·cases h;exact ⟨_,hh⟩
   ·exact b q m' e' g' v' h hq
theorem mN (hT:bA P T) {op:Op} {m:Nat} {al:List (Nat×Nat×Ob)} {g:Tr V->Tr Ob->(V->X S1)->X S1} (ha:act T op=.rd g) {e:Tr V} {v:V} {k:X S1}:∀ {aY:List (Nat×Tr Ob)},ml m al g e v h0 k aY=.v r->k=.v r /\
  ∀ pre vx,aY=pre++vx->pre≠[]->(∀ x∈pre,tb m x.1=false)->∃ Z,(dQ (tb m) al (lB h0 vx) λh=>g e h λu=>match bH v u with|true=>Z|false=>no 202)=.v r
 | [],hh=>⟨hh,λpre vx h1 h2=>by cases pre<;>first|exact absurd rfl h2|cases h1⟩
 | (i,H)::l',hh=>by
  unfold ml at hh
  cases ht:tb m i with
  | true =>
   rw[ht] at hh
   refine ⟨hh,λpre vx h1 h2 h3=>?_⟩
   cases pre with
   | nil=>exact absurd rfl h2
   | cons x pre =>
    cases h1
    have:=h3 (i,H) (by simp)
    rw[ht] at this;cases this
  | false =>
   rw[ht] at hh
   simp only at hh
   have hk:=wY (P:=P) hT ha hh
   obtain ⟨a,b⟩:=mN hT ha hk
   refine ⟨a,λpre vx h1 h2 h3=>?_⟩
   cases pre with
   | nil=>exact absurd rfl h2
   | cons x pre =>
    cases h1
    by_cases hp:pre=[]
    ·subst hp;exact ⟨_,hh⟩
    ·exact b pre vx rfl hp λx hx=>h3 x (zby _ hx)
theorem fa {D:fU}:∀ {n p:Nat},p<=n->∃ pre,aV D n=pre++aV D p/\(∀ x∈pre,p<=x.1/\x.1<n/\D.cp x.1≠none)/\(pre=[]->EK D h0 eA n=EK D h0 eA p)
 | 0,p,h=>⟨[],by rw[show p=0 by omega];rfl,λx hx=>by (cases hx),λ_=>by rw[show p=0 by omega]⟩
 | n+1,p,h=>by
  by_cases e:p=n+1
  ·subst e;exact ⟨[],rfl,λx hx=>by (cases hx),λ_=>rfl⟩
  ·obtain ⟨pre,h1,h2,h3⟩:=fa (n:=n) (p:=p) (by omega)
   have hd:aV D (n+1)=(match D.cp n with|some H=>(n,H)::aV D n|none=>aV D n):=rfl
   cases hq:D.cp n with
   | none =>
    rw[hd,hq]
    refine ⟨pre,h1,λx hx=>?_,λhp=>(gp hq).trans (h3 hp)⟩
    obtain ⟨a,b,c⟩:=h2 x hx
    exact ⟨a,by omega,c⟩
   | some H =>
    rw[hd,hq]
    refine ⟨(n,H)::pre,by rw[h1];rfl,λx hx=>?_,λhp=>by cases hp⟩
    rcases zbi.1 hx with rfl|hx
    ·exact ⟨by simp only;omega,by simp only;omega,by simp only;rw[hq];simp⟩
    ·obtain ⟨a,b,c⟩:=h2 x hx
     exact ⟨a,by omega,c⟩
theorem hQ {D:fU} {m:Nat}:∀ {n:Nat},jt m (aV D n)=true->∀ q,q<n->D.cp q≠none->m.testBit q=true
 | 0,h,q,hq=>by omega
 | n+1,h,q,hq=>λhe=>by
  have hd:aV D (n+1)=(match D.cp n with|some H=>(n,H)::aV D n|none=>aV D n):=rfl
  rw[hd] at h
  cases hn:D.cp n with
  | none =>
   rw[hn] at h
   have:q≠n:=λe=>by subst e;exact he hn
   exact hQ h q (by omega) he
  | some H =>
   rw[hn] at h
   simp only at h
   unfold jt at h
   split at h
   ·rename_i ht
    by_cases e:q=n
    ·subst e;rw[←mL];exact ht
    ·exact hQ h q (by omega) he
   ·cases h
end pass
section pass
variable {P:uF} {T:Tr TI} {F:Tr Func} {E:Nat->Option (List V->Tr Ob->(V->X S1)->X S1)} {run:Cx->FZ->(V->Nat->Tr Ob->X S1)->X S1} {r:S1} {cx:Cx} {ds:List Df} {l:List Oper} {h0:Tr Ob}
def A6 (l:List Oper) (D:fU) (n q p:Nat):Prop:=p<=n/\(∀ q',q'<p->D.cp q'≠none->(mk l q').testBit q=false)/\(∀ q',p<=q'->q'<n->D.cp q'≠none->(mk l q).testBit q'=false)
def y5 (P:uF) (l:List Oper) (h0:Tr Ob) (D:fU) (p:Nat):Rd->Prop
 | .mk q _ e _ v=>∀ o,l[q]?=some o->∃ H':Tr Ob,nZ P e H' o.op v/\∀ a,H'.get a=mg (EK D h0 eA p).get (AL D (λj=>(mk l q).testBit j) q) a
def y6:Rd->Nat
 | .mk q _ _ _ _=>q
def uR (P:uF) (l:List Oper) (h0:Tr Ob) (D:fU) (n:Nat) (dI:List Rd):Prop:=∀ rd∈dI,∀ p,A6 l D n (y6 rd) p->y5 P l h0 D p rd
structure y7 (l:List Oper) (D:fU) (i nx:Nat) (aY:List (Nat×Tr Ob)) (al:List (Nat×Nat×Ob)):Prop where
 n:D.N i=nx
 aY:aV D i=aY
 al:iw D i=al
 uniq:lR D i
 lt:∀ j a ob,j<i->D.al j=some (a,ob)->a<nx
def Ag (D Tl:fU) (i:Nat):Prop:=∀ j,i<=j->D.V0 j=Tl.V0 j/\D.EN j=Tl.EN j/\D.cp j=Tl.cp j/\D.al j=Tl.al j/\D.N (j+1)=Tl.N (j+1)
structure A7 (P:uF) (cx:Cx) (ds:List Df) (l:List Oper) (h0:Tr Ob) (D:fU) (i:Nat) (env ay:Tr V) (av:Nat) (h':Tr Ob) (dI:List Rd):Prop where
 ok:∀ j o,i<=j->l[j]?=some o->pX P cx ds l D h0 l.length j o
 rd:uR P l h0 D l.length dI
 n:D.N l.length=av
 get:∀ a,h'.get a=Wd D h0 l.length eA a
 uniq:lR D l.length
 ev:∀ t v,ay.get t=some v->(∃ j,i<=j/\aj l j=some t/\D.V0 j=v)∨((∀ j,i<=j->aj l j≠some t)/\env.get t=some v)
 en:∀ (j:Nat) o t v,i<=j->l[j]?=some o->(D.EN j).get t=some v->t∈dU l o/\((∃ q,i<=q/\q<j/\aj l q=some t/\D.V0 q=v)∨((∀ q,i<=q->q<j->aj l q≠some t)/\env.get t=some v))
 dst:∀ (j t:Nat),i<=j->aj l j=some t->t<cx.n
def Claim (P:uF) (cx:Cx) (ds:List Df) (l:List Oper) (h0:Tr Ob) (i:Nat) (env:Tr V) (nx:Nat) (aY:List (Nat×Tr Ob)) (al:List (Nat×Nat×Ob)) (dI:List Rd) (k:Tr V->Nat->Tr Ob->X S1) (r:S1):Prop :=
 ∃ (Tl:fU) (ay:Tr V) (av:Nat) (h':Tr Ob),k ay av h'=.v r/\nx<=av/\∀ D,Ag D Tl i->y7 l D i nx aY al->uR P l h0 D i dI->A7 P cx ds l h0 D i env ay av h' dI
theorem dB {n:Nat} {d:J Nat} {v:V} {env:Tr V} {k:Tr V->X S1} (hh:fA n d v env k=.v r):∃ ay,k ay=.v r/\(∀ t,d=some t->t<n)/\∀ t x,ay.get t=some x->(d=some t/\v=x)∨(d≠some t/\env.get t=some x):=by
 unfold fA at hh
 split at hh
 ·exact ⟨env,hh,λt h=>(by cases h),λt x h=>.inr ⟨by simp,h⟩⟩
 ·rename_i d
  split at hh
  ·rename_i hb
   have hb:=zac hb
   obtain ⟨ay,q1,q2⟩:=aS hh
   refine ⟨ay,q1,λt h=>(by cases h;omega),λt x hx=>?_⟩
   rw[q2 t] at hx
   by_cases e:t=d
   ·subst e;rw[zam rfl] at hx;cases hx;exact .inl ⟨rfl,rfl⟩
   ·rw[zaj e] at hx;exact .inr ⟨by simpa using zbe e,hx⟩
  ·cases hh
theorem fb {i nx qz:Nat} {o:Oper} {env lS e:Tr V} {v:V} {aY qb:List (Nat×Tr Ob)} {al y8:List (Nat×Nat×Ob)} {dI rN:List Rd} {k:Tr V->Nat->Tr Ob->X S1} {ef:Option (Tr Ob)} {ao:Option (Nat×Ob)}
  (ho:l[i]?=some o) (hE:∀ t x,e.get t=some x->t∈dU l o/\env.get t=some x) (hd:∀ t,o.dst=some t->t<cx.n) (hp:∀ t x,lS.get t=some x->(o.dst=some t/\v=x)∨(o.dst≠some t/\env.get t=some x))
  (uJ:nx<=qz) (hh:qb=match ef with|some H=>(i,H)::aY|none=>aY) (ha:y8=match ao with|some (a,ob)=>(i,a,ob)::al|none=>al) (y9:∀ a ob,ao=some (a,ob)->a=nx/\nx<qz)
  (lQ:∀ rd∈dI,rd∈rN)
  (za:∀ D,y7 l D i nx aY al->D.V0 i=v->D.EN i=e->D.cp i=ef->D.al i=ao->D.N (i+1)=qz->uR P l h0 D i dI->uR P l h0 D (i+1) rN/\(uR P l h0 D l.length rN->pX P cx ds l D h0 l.length i o))
  (IH:Claim P cx ds l h0 (i+1) lS qz qb y8 rN k r):Claim P cx ds l h0 i env nx aY al dI k r:=by
 obtain ⟨Tl,ay,av,h',q1,q2,q3⟩:=IH
 have bK:=(zaa.1 ho).1
 have sT:aj l i=o.dst:=by simp[aj,ho]
 refine ⟨⟨λj=>if j=i then v else Tl.V0 j,λj=>if j=i then e else Tl.EN j,λj=>if j=i+1 then qz else Tl.N j,λj=>if j=i then ef else Tl.cp j,λj=>if j=i then ao else Tl.al j⟩,ay,av,h',q1,by omega,λD hA hP hR=>?_⟩
 obtain ⟨a1,a2,a3,a4,a5⟩:=hA i (zab _)
 simp only[zcf] at a1 a2 a3 a4 a5
 obtain ⟨g1,g2⟩:=za D hP a1 a2 a3 a4 a5 hR
 have hA':Ag D Tl (i+1):=λj hj=>by
  have:=hA j (by omega)
  simp only[zaj (show ¬ j=i by omega),zaj (show ¬ j+1=i+1 by omega)] at this
  exact this
 have hP':y7 l D (i+1) qz qb y8:=by
  refine ⟨a5,?_,?_,λx y a ob kM hx hy h1 h2=>?_,λj a ob hj h=>?_⟩
  ·have tq:aV D (i+1)=(match D.cp i with|some H=>(i,H)::aV D i|none=>aV D i):=rfl
   rw[tq,a3,hP.aY,hh]
  ·have tq:iw D (i+1)=(match D.al i with|some (a,ob)=>(i,a,ob)::iw D i|none=>iw D i):=rfl
   rw[tq,a4,hP.al,ha]
  ·by_cases ex:x=i
   ·by_cases ey:y=i
    ·omega
    ·subst ex
     rw[a4] at h1
     have:=hP.lt y a kM (by omega) h2
     have:=(y9 a ob h1).1
     omega
   ·by_cases ey:y=i
    ·subst ey
     rw[a4] at h2
     have:=hP.lt x a ob (by omega) h1
     have:=(y9 a kM h2).1
     omega
    ·exact hP.uniq x y a ob kM (by omega) (by omega) h1 h2
  ·by_cases e:j=i
   ·subst e;rw[a4] at h;have:=y9 a ob h;omega
   ·have:=hP.lt j a ob (by omega) h;omega
 have R:=q3 D hA' hP' g1
 refine ⟨λj o' hj nP=>?_,λrd ek=>R.rd rd (lQ rd ek),R.n,R.get,R.uniq,λt x hx=>?_,λj o' t x hj nP hx=>?_,λj t hj cm=>?_⟩
 ·by_cases e:j=i
  ·subst e;rw[ho] at nP;cases nP;exact g2 R.rd
  ·exact R.ok j o' (by omega) nP
 ·rcases R.ev t x hx with ⟨j,b1,b2,b3⟩|⟨b1,b2⟩
  ·exact .inl ⟨j,by omega,b2,b3⟩
  ·rcases hp t x b2 with ⟨c1,c2⟩|⟨c1,c2⟩
   ·exact .inl ⟨i,zab _,sT.trans c1,a1.trans c2⟩
   ·refine .inr ⟨λj hj=>?_,c2⟩
    by_cases e:j=i
    ·subst e;rw[sT];exact c1
    ·exact b1 j (by omega)
 ·by_cases e:j=i
  ·subst e
   rw[ho] at nP;cases nP
   rw[a2] at hx
   obtain ⟨c1,c2⟩:=hE t x hx
   exact ⟨c1,.inr ⟨λq b1 b2=>by omega,c2⟩⟩
  ·obtain ⟨c1,c2|⟨c2,c3⟩⟩:=R.en j o' t x (by omega) nP hx
   ·obtain ⟨q,d1,d2,d3,d4⟩:=c2
    exact ⟨c1,.inl ⟨q,by omega,d2,d3,d4⟩⟩
   ·refine ⟨c1,?_⟩
    rcases hp t x c3 with ⟨e1,e2⟩|⟨e1,e2⟩
    ·exact .inl ⟨i,zab _,by omega,sT.trans e1,a1.trans e2⟩
    ·refine .inr ⟨λq b1 b2=>?_,e2⟩
     by_cases eq:q=i
     ·subst eq;rw[sT];exact e1
     ·exact c2 q (by omega) b2
 ·by_cases e:j=i
  ·subst e;exact hd t (sT.symm.trans cm)
  ·exact R.dst j t (by omega) cm
theorem fc {D:fU} {i:Nat} {dI:O Rd} (he:D.cp i=none) (h:uR P l h0 D i dI):uR P l h0 D (i+1) dI:=λrd ek p ⟨w1,w2,w3⟩=>by
 by_cases e:p=i+1
 ·subst e
  have:=h rd ek i ⟨zab _,λq' hq hn=>w2 q' (by omega) hn,λq' h1 h2=>by omega⟩
  cases rd with
  | mk q m e g v =>
   intro o ho
   obtain ⟨H',k1,k2⟩:=this o ho
   exact ⟨H',k1,λa=>by rw[gp he];exact k2 a⟩
 ·exact h rd ek p ⟨by omega,w2,λq' h1 h2=>w3 q' h1 (by omega)⟩
end pass
def uS (m:Nat->Bool):List (Nat×Nat×Ob)->Hf
 | []=>λ_=>none
 | (j,a,ob)::l=>match m j with
  | true=>mg (one a ob) (uS m l)
  | false=>uS m l
theorem nQ {D:fU} {m:Nat->Bool}:∀ n,AL D m n=uS m (iw D n)
 | 0=>rfl
 | n+1=>by
  have h1:AL D m (n+1)=(match m n with|true=>(match D.al n with|some (a,ob)=>mg (one a ob) (AL D m n)|none=>AL D m n)|false=>AL D m n):=rfl
  have h2:iw D (n+1)=(match D.al n with|some (a,ob)=>(n,a,ob)::iw D n|none=>iw D n):=rfl
  rw[h1,h2,nQ n]
  cases D.al n with
  | none=>cases m n<;>rfl
  | some p=>cases hm:m n<;>simp[uS,hm]
theorem eB {r:S1} {m:Nat->Bool}:∀ {al:O (Nat×Nat×Ob)} {h:Tr Ob} {k:Tr Ob->X S1},dQ m al h k=.v r->∃ h',k h'=.v r/\∀ a,h'.get a=mg h.get (uS m al) a
 | [],h,k,hh=>⟨h,hh,λa=>by
   unfold mg
   cases h.get a<;>rfl⟩
 | (j,b,ob)::al,h,k,hh=>by
  unfold dQ at hh
  unfold uS
  cases hm:m j with
  | false =>
   rw[hm] at hh
   exact eB hh
  | true =>
   rw[hm] at hh
   simp only at hh ⊢
   cases hg:h.get b with
   | some x =>
    rw[hg] at hh
    obtain ⟨h',q1,q2⟩:=eB hh
    refine ⟨h',q1,λa=>?_⟩
    rw[q2 a]
    unfold mg
    cases zX:h.get a with
    | some y=>rfl
    | none =>
     have cE:¬ a=b:=λe=>by subst e;rw[hg] at zX;cases zX
     simp[one,cE]
   | none =>
    rw[hg] at hh
    simp only at hh
    obtain ⟨h1,s1,s2⟩:=aS hh
    obtain ⟨h',q1,q2⟩:=eB s1
    refine ⟨h',q1,λa=>?_⟩
    rw[q2 a]
    unfold mg
    rw[s2 a]
    by_cases cE:a=b
    ·subst cE;simp[one,hg]
    ·rw[zaj cE]
     cases h.get a with
     | some y=>rfl
     | none=>simp[one,cE]
section pass
variable {P:uF} {T:Tr TI} {F:Tr Func} {E:Nat->Option (List V->Tr Ob->(V->X S1)->X S1)} {run:Cx->FZ->(V->Nat->Tr Ob->X S1)->X S1} {r:S1} {cx:Cx} {ds:List Df} {l:List Oper} {h0:Tr Ob}
theorem wZ (hT:bA P T) {op:Op} {g:Tr V->Tr Ob->(V->X S1)->X S1} (ha:act T op=.rd g) {e:Tr V} {v:V} {m:Nat->Bool} {al:List (Nat×Nat×Ob)} {H:Tr Ob} {Z:X S1} {n:Nat}
  (hh:(dQ m al H λh=>g e h λu=>match bH v u with|true=>Z|false=>no n)=.v r):∃ H':Tr Ob,nZ P e H' op v/\∀ a,H'.get a=mg H.get (uS m al) a:=by
 obtain ⟨h',q1,q0⟩:=eB hh
 obtain ⟨u,q2,q3⟩:=jB (P:=P) hT ha q1
 split at q2
 ·rename_i hs
  rw[kE hs]
  exact ⟨h',q3,q0⟩
 ·cases q2
theorem jL (m:Nat):tb m=λj=>m.testBit j:=funext λj=>mL m j
theorem iR (hT:bA P T) (hF:kL P F) (hE:mG P E) (aD:cj P run) (rO:∀ (i:Nat) o,l[i]?=some o->∀ e∈o.after,Region.binds .any e=true->e.on<i) :
  ∀ {os:O Oper} {ms:O Nat} {i:Nat} {env:Tr V} {nx:Nat} {aY:O (Nat×Tr Ob)} {al:O (Nat×Nat×Ob)} {dI:O Rd} {k:Tr V->Nat->Tr Ob->X S1},
   qw T F E run cx l h0 os ms i env nx aY al dI k=.v r->os=l.drop i->ms=(aE l []).drop i->i<=l.length->(∀ rd∈dI,qa T l i rd)->Claim P cx ds l h0 i env nx aY al dI k r
 | [],ms,i,env,nx,aY,al,dI,k,hh,h1,h2,h3,h4=>by
  have hi:i=l.length:=by
   have:=zao List.length h1
   simp at this
   omega
  subst hi
  unfold qw at hh
  obtain ⟨h',q1,q2⟩:=eB hh
  refine ⟨⟨λ_=>undef,λ_=>.e,λ_=>nx,λ_=>none,λ_=>none⟩,env,nx,h',q1,zab _,λD hA hP hR=>?_⟩
  have gC:∀ (j t:Nat),l.length<=j->aj l j≠some t:=λj t hj h=>by
   unfold aj at h
   rw[zbn hj] at h;cases h
  refine ⟨λj o hj nP=>?_,hR,hP.n,λa=>?_,hP.uniq,λt v hv=>.inr ⟨λj hj=>gC j t hj,hv⟩,λj o t v hj nP=>?_,λj t hj h=>absurd h (gC j t hj)⟩
  ·rw[zbn hj] at nP;cases nP
  ·rw[q2 a,←hP.al,←nQ,←hP.aY,e8];rfl
  ·rw[zbn hj] at nP;cases nP
 | o::os,[],i,env,nx,aY,al,dI,k,hh,h1,h2,h3,h4=>by
  unfold qw at hh;cases hh
 | o::os,m::ms,i,env,nx,aY,al,dI,k,hh,h1,h2,h3,h4=>by
  have ho:l[i]?=some o:=by
   have:(l.drop i)[0]?=some o:=by rw[←h1];rfl
   simpa using this
  have bK:=(zaa.1 ho).1
  have vo:os=l.drop (i+1):=by
   have:(l.drop i).tail=os:=by rw[←h1];rfl
   rw[←this,List.tail_drop]
  have qE:ms=(aE l []).drop (i+1):=by
   have:((aE l []).drop i).tail=ms:=by rw[←h2];rfl
   rw[←this,List.tail_drop]
  have hm:m=mk l i:=by
   have:((aE l []).drop i)[0]?=some m:=by rw[←h2];rfl
   unfold mk
   rw[zbh]
   have h:(aE l [])[i]?=some m:=by simpa using this
   rw[h];rfl
  have w5:∀ rd∈dI,qa T l (i+1) rd:=λrd ek=>by
   have:=h4 rd ek
   cases rd with
   | mk q m e g v=>exact ⟨Nat.lt_succ_of_lt this.1,this.2⟩
  have zb:∀ {D:fU} {q:Nat} {o':Oper},l[q]?=some o'->q<=i->AL D (λj=>(mk l q).testBit j) i=AL D (λj=>(mk l q).testBit j) q:=λhq hle=>pZ (λj hj=>wX rO hq hj) hle
  unfold qw at hh
  obtain ⟨e,q0,A8⟩:=jJ hh
  have uQ:∀ t x,e.get t=some x->t∈dU l o/\env.get t=some x:=λt x hx=>by
   rcases A8 t x hx with h|h
   ·exact h
   ·cases h
  clear hh
  split at q0
  ·cases q0
  ·rename_i hw
   obtain ⟨lS,p1,p2,p3⟩:=dB q0
   rw[aB] at p1
   have IH:=iR hT hF hE aD rO p1 vo qE bK w5
   exact fb (ef:=none) (ao:=none) ho uQ p2 p3 (zab _) rfl rfl (λa ob h=>by cases h) (λrd h=>h) (λD hP a1 a2 a3 a4 a5 hR=>⟨fc a3 hR,λ_=>.quiet a3 a4 (by rw[a5,hP.n]) λhf=>by rw[a1,a2];exact nN hw⟩) IH
  ·rename_i hw
   split at q0
   ·rename_i g ha
    obtain ⟨v,q1,hs⟩:=pD (P:=P) hT ha q0
    obtain ⟨lS,p1,p2,p3⟩:=dB q1
    rw[aB] at p1
    have IH:=iR hT hF hE aD rO p1 vo qE bK w5
    exact fb (ef:=none) (ao:=none) ho uQ p2 p3 (zab _) rfl rfl (λa ob h=>by cases h) (λrd h=>h) (λD hP a1 a2 a3 a4 a5 hR=>⟨fc a3 hR,λ_=>.quiet a3 a4 (by rw[a5,hP.n]) λhf=>by rw[a1,a2];exact dc hw (mD hs)⟩) IH
   ·rename_i g ha
    obtain ⟨v,ob,q1,hs⟩:=pI (P:=P) hT ha q0
    obtain ⟨lS,p1,p2,p3⟩:=dB q1
    rw[aB,aB] at p1
    have IH:=iR hT hF hE aD rO p1 vo qE bK w5
    exact fb (ef:=none) (ao:=some (nx,ob)) ho uQ p2 p3 (zce _) rfl rfl (λa ob h=>by cases h;exact ⟨rfl,zbt _⟩) (λrd h=>h) (λD hP a1 a2 a3 a4 a5 hR=>⟨fc a3 hR,λ_=>.alloc ob a3 (by rw[a4,hP.n]) (by rw[a5,hP.n]) λhf h' ng=>by
     rw[a1,a2,hP.n]
     rw[hP.n] at ng
     exact dc hw (mF hs ng)⟩) IH
   ·rename_i g ha
    obtain ⟨hr,q1,zc⟩:=eB q0
    obtain ⟨v,q2,hs⟩:=jB (P:=P) hT ha q1
    obtain ⟨q3,w6⟩:=mN (P:=P) hT ha q2
    obtain ⟨lS,p1,p2,p3⟩:=dB q3
    rw[aB] at p1
    have A9:qa T l (i+1) (.mk i m e g v):=⟨zbt _,hm,o,ho,ha⟩
    have IH:=iR hT hF hE aD rO p1 vo qE bK (λrd ek=>by
     rcases zbi.1 ek with rfl|ek
     ·exact A9
     ·exact w5 rd ek)
    refine fb (ef:=none) (ao:=none) ho uQ p2 p3 (zab _) rfl rfl (λa ob h=>by cases h) (λrd h=>zby _ h) (λD hP a1 a2 a3 a4 a5 hR=>⟨λrd ek=>?_,λbF=>.reader a3 a4 (by rw[a5,hP.n]) λp w1 w2 w3=>?_⟩) IH
    ·rcases zbi.1 ek with rfl|ek
     ·intro p ⟨w1,w2,w3⟩ o' bR
      have Ba:o'=o:=by rw[ho] at bR;cases bR;rfl
      subst Ba
      have cur:∃ H':Tr Ob,nZ P e H' o'.op v/\∀ a,H'.get a=mg (EK D h0 eA i).get (AL D (λj=>(mk l i).testBit j) i) a :=
       ⟨hr,hs,λa=>by rw[zc a,←hP.al,←nQ,←hP.aY,e8,jL,hm]⟩
      by_cases ep:p=i+1
      ·subst ep
       rw[gp a3];exact cur
      ·obtain ⟨pre,s1,s2,s3⟩:=fa (D:=D) (h0:=h0) (n:=i) (p:=p) (by omega)
       by_cases rP:pre=[]
       ·rw[←s3 rP];exact cur
       ·obtain ⟨Z,hZ⟩:=w6 pre (aV D p) (by rw[←hP.aY];exact s1) rP (λx hx=>by
         obtain ⟨b1,b2,b3⟩:=s2 x hx
         rw[mL,hm]
         exact w3 x.1 b1 (by omega) b3)
        obtain ⟨H',z1,z2⟩:=wZ (P:=P) hT ha hZ
        exact ⟨H',z1,λa=>by rw[z2 a,e8,←hP.al,←nQ,jL,hm]⟩
     ·exact fc a3 hR rd ek
    ·obtain ⟨H',z1,z2⟩:=bF (.mk i m e g v) (by simp) p ⟨w1,w2,w3⟩ o ho
     exact ⟨H',by rw[a1,a2];exact dc hw (mE z1),z2⟩
   ·cases q0
   ·cases q0
   ·split at q0
    ·cases q0
    ·rename_i Bb
     obtain ⟨hp,q1,zc⟩:=eB q0
     obtain ⟨v,qz,zY,q2,sU⟩:=sP (P:=P) (cx:=cx) (ds:=ds) (o:=o) hT hF hE aD q1
     obtain ⟨q3,wB⟩:=hO (P:=P) hT h4 q2
     obtain ⟨lS,p1,p2,p3⟩:=dB q3
     rw[aB] at p1
     have IH:=iR hT hF hE aD rO p1 vo qE bK w5
     refine fb (ef:=some zY) (ao:=none) ho uQ p2 p3 sU.1 rfl rfl (λa ob h=>by cases h) (λrd h=>h) (λD hP a1 a2 a3 a4 a5 hR=>⟨λrd ek p ⟨w1,w2,w3⟩=>?_,λ_=>?_⟩) IH
     ·by_cases ep:p=i+1
      ·subst ep
       cases rd with
       | mk q m' e' g' v' =>
        intro o' bR
        obtain ⟨b1,b2,o2,b3,b4⟩:=h4 _ ek
        rw[b3] at bR;cases bR
        have y3:tb m q=false:=by rw[mL,hm];exact w2 i (zbt _) (by rw[a3];simp)
        obtain ⟨Z,hZ⟩:=wB q m' e' g' v' ek y3
        obtain ⟨H',z1,z2⟩:=wZ (P:=P) hT b4 hZ
        refine ⟨H',z1,λa=>?_⟩
        rw[z2 a,←hP.al,←nQ,jL,b2,zb b3 (by omega)]
        rw[e9 a3 rfl (zbt _) λq a b=>by omega]
      ·exact hR rd ek p ⟨by omega,w2,λq' x y=>w3 q' x (by omega)⟩
     ·refine .effect zY hp a3 a4 ?_ (λq hq he=>?_) λa=>?_
      ·rw[a1,a2,hP.n,a5];exact dc hw sU
      ·rw[←hm];exact hQ (by rw[hP.aY];exact Bb) q hq he
      ·rw[zc a,←hP.al,←nQ,←hP.aY,e8,jL,hm]
end pass
section draw
variable {P:uF} {T:Tr TI} {F:Tr Func} {E:Nat->Option (List V->Tr Ob->(V->X S1)->X S1)} {run:Cx->FZ->(V->Nat->Tr Ob->X S1)->X S1} {r:S1} {cx:Cx} {ds:List Df} {l:List Oper} {env:Tr V} {nx:Nat} {h:Tr Ob}
theorem sV {D:fU} {h0:Tr Ob} {X:Nat->Bool}:∀ {n:Nat},(∀ j,j<n->X j=false)->EK D h0 X n=h0
 | 0,_=>rfl
 | n+1,hX=>by
  have:EK D h0 X (n+1)=(match X n with|true=>(match D.cp n with|some H=>H|none=>EK D h0 X n)|false=>EK D h0 X n):=rfl
  rw[this,hX n (by omega)]
  exact sV λj hj=>hX j (by omega)
theorem sW {D:fU} {X:Nat->Bool}:∀ {n:Nat},(∀ j,j<n->X j=false)->AL D X n=λ_=>none
 | 0,_=>rfl
 | n+1,hX=>by
  have:AL D X (n+1)=(match X n with|true=>(match D.al n with|some (a,ob)=>mg (one a ob) (AL D X n)|none=>AL D X n)|false=>AL D X n):=rfl
  rw[this,hX n (by omega)]
  exact sW λj hj=>hX j (by omega)
theorem uT (hT:bA P T) (hF:kL P F) (hE:mG P E) (aD:cj P run) (hM:P.follows .mixedOrders=true) {k:Tr V->Nat->Tr Ob->X S1} (hh:oZ T F E run cx l env nx h k=.v r):∃ ay av h',k ay av h'=.v r/\nx<=av /\
  ∀ μ B w tmps (f:Ctx) K kk id,HR μ B h.get w->ER μ env tmps->cx.n<=tmps.size->(∀ o,nx<=o->o<av->μ o=none)->aO B w->CR μ cx ds f ->
   (∀ μ' w' dT,HR μ' B h'.get w'->ER μ' ay dT->cx.n<=dT.size->Ev μ h.get w μ' h'.get w' nx av->ag P f K kk dT w')->ag P f K (.code (.region id ⟨l⟩ true)::kk) tmps w:=by
 unfold oZ at hh
 split at hh
 ·rename_i hB
  rw[dK (f:=id) (λn k=>by rw[aB];rfl)] at hh
  simp only[fM,zaf] at hB
  obtain ⟨⟨⟨⟨vI,vJ⟩,x7⟩,xh⟩,xi⟩:=hB
  have rO:∀ (i:Nat) o,l[i]?=some o->∀ e∈o.after,Region.binds .any e=true->e.on<i:=by
   intro i o ho e he hb
   have bK:=(zaa.1 ho).1
   have h1:=aq xh bK
   rw[ho] at h1
   simp only[zas] at h1
   have:=h1 e (by simpa using he)
   simpa [hb] using this
  obtain ⟨Tl,ay,av,h',q1,q2,q3⟩:=iR (cx:=cx) (ds:=ds) hT hF hE aD rO hh rfl (by simp) (zba _) (λrd ek=>by cases ek)
  refine ⟨ay,av,h',q1,q2,λμ B w tmps f K kk id hH he hn hf hG hC hk=>?_⟩
  have R:=q3 { Tl with N:=λj=>if j=0 then nx else Tl.N j } (λj _=>⟨rfl,rfl,rfl,rfl,by simp⟩) ⟨rfl,rfl,rfl,λi j a ob kM hi=>by omega,λj a ob hj=>by omega⟩ (λrd ek=>by cases ek)
  generalize hD:({ Tl with N:=λj=>if j=0 then nx else Tl.N j }:fU)=D at R
  have zd:D.N 0=nx:=by rw[←hD];rfl
  have ze:∀ i,i<l.length->D.N i<=D.N (i+1):=λi hi=>(R.ok i l[i] (zba _) (zad hi)).mono
  have zZ:Wd D h l.length (λj=>(Array.replicate (⟨l⟩:uD Oper).size false).getD j false)=h.get:=by
   have hX:∀ j,j<l.length->(Array.replicate (⟨l⟩:uD Oper).size false).getD j false=false:=λj hj=>by simp[zah,hj]
   funext a
   unfold Wd
   rw[sV hX,sW hX]
   unfold mg
   cases h.get a<;>rfl
  have Bc:Wd D h l.length (λ_=>true)=h'.get:=funext λa=>(R.get a).symm
  refine ag.gu λt=>?_
  have tv:Region.schedule (P.follows .mixedOrders) ⟨l⟩ t=Region.linearise .any ⟨l⟩ t:=by simp[Region.schedule,hM]
  rw[tv]
  obtain ⟨g1,g2⟩:=hH.grow (n:=nx) (Below.refl w.heap.size w).drew
  unfold Region.linearise
  refine nO (P:=P) (cx:=cx) (ds:=ds) (V0:=D.V0) (EN:=D.EN) (N:=D.N) (W:=Wd D h l.length) (env0:=env) (μ0:=μ) (h0:=h.get) (w0:=w) ?_ ?_ rO ?_ (λi t=>R.dst i t (zba _)) ze ?_ (λi o X ho hX hm cJ=>wV (λj o=>R.ok j o (zba _)) R.uniq i o X ho hX hm cJ) (λμ' w' dT c1 c2 c3 c4=>?_)
   _ _ t _ μ _ tmps (by simp) (λi o ho hl=>?_) rfl ?_ ?_ ?_ (λi hi hX o o1 o2=>?_) hn (g2.eE hH hG) hC (λs=>⟨λj hj hX=>?_,λ_ v hv=>?_⟩)
  ·intro i j t hi hj vK vL cm
   have:=aq (aq vJ hi) hj
   simp[vK,vL,cm] at this
  ·intro i o hi ho t ht j hj ct cm
   have h1:=aq vI hi
   rw[ho] at h1
   simp only[zas] at h1
   have h2:=aq (h1 t ht) hj
   simp only[cm,bne_self_eq_false,Bool.or_false,zbs,zaf,zbm,beq_iff_eq] at h2
   rcases h2 with (h2|h2)|h2
   ·exact absurd h2.symm ct
   ·exact .inl h2
   ·exact .inr h2
  ·intro i o t v ho hv
   obtain ⟨a,b|⟨b,c⟩⟩:=R.en i o t v (zba _) ho hv
   ·obtain ⟨q,_,d2,d3,d4⟩:=b;exact ⟨a,.inl ⟨q,d2,d3,d4⟩⟩
   ·exact ⟨a,.inr ⟨λj hj=>b j (zba _) hj,c⟩⟩
  ·intro X X' hX
   funext a
   unfold Wd mg
   rw[mM (X:=X) (X':=X') λj hj _=>hX j hj,jI R.uniq (X:=X) (X':=X') (λj hj _=>hX j hj) a]
  ·rw[Bc] at c1 c2
   rw[zd,R.n] at c2
   refine hk μ' w' dT c1 (λt v hv=>?_) c3 c2
   rcases R.ev t v hv with ⟨j,_,d2,d3⟩|⟨d1,d2⟩
   ·have nh:j<l.length:=by
     unfold aj at d2
     cases hq:l[j]? with
     | none=>rw[hq] at d2;cases d2
     | some o=>exact (zaa.1 hq).1
    rw[←d3]
    exact (c4 t).1 j nh rfl d2
   ·exact (c4 t).2 (λj _ _=>d1 j (zba _)) v d2
  ·have bK:=(zaa.1 ho).1
   simp[zah,bK] at hl
  ·exact zau (List.length_filter_le _ _) (by simp)
  ·rw[zZ];exact g1
  ·rw[zZ,zd,R.n]
   exact (Ev.refl μ h.get w nx).join g2 (zab _) q2 (zab _) q2 q2
  ·refine hf o ?_ ?_
   ·have:=ew ze (zba i) (by omega);rw[zd] at this;omega
   ·have:=ew ze (show i+1<=l.length by omega) (zab _);rw[R.n] at this;omega
  ·simp[zah,hj] at hX
  ·exact he s v hv
 ·cases hh
end draw
section step
variable {P:uF} {T:Tr TI} {F:Tr Func} {E:Nat->Option (List V->Tr Ob->(V->X S1)->X S1)} {run:Cx->FZ->(V->Nat->Tr Ob->X S1)->X S1} {r:S1} {env:Tr V} {h:Tr Ob} {cx:Cx} {ds:List Df} {nx:Nat}
theorem lT {id:Nat} {ops:uD Oper} {k:O Item}:qy P cx ⟨.k (.code (.region id ops false)::k),env,nx,h,ds⟩ (.go ⟨.o ops.toList ops.toList k,env,nx,h,ds⟩) :=
 ⟨zab _,λv av h' ⟨g1,g2⟩=>⟨g1,λ_ μ B w tmps f hH he hn hf hG hC=>by
  have:=g2 ⟨[],rfl⟩ μ B w tmps f hH he hn hf hG hC
  refine ag.region ?_
  have e:db (.o ops.toList ops.toList k)=.inRegion ops (List.range ops.size)::k:=by simp[db]
  rw[e] at this
  exact this⟩⟩
theorem rQ (hT:bA P T) (hF:kL P F) (hE:mG P E) (aD:cj P run) (hM:P.follows .mixedOrders=true) {c:Code} {k:O Item} (hh:o4 T F E run cx c k env nx h ds=.v r):qy P cx ⟨.k (.code c::k),env,nx,h,ds⟩ r:=by
 unfold o4 at hh
 split at hh
 ·cases hh;exact bh λf K tmps w h=>ag.vz h
 ·cases hh;exact bh λf K tmps w h=>ag.n6 h
 ·cases hh;exact bh λf K tmps w h=>ag.seq h
 ·obtain ⟨v,q1,hh⟩:=az hh
  split at hh
  ·cases hh
   exact ⟨zab _,λv av h' ⟨g1,g2⟩=>⟨g1,λ_ μ B w tmps f hH he hn hf hG hC=>ag.cond (t:=true) (au he q1).bool (g2 trivial μ B w tmps f hH he hn hf hG hC)⟩⟩
  ·cases hh
   exact ⟨zab _,λv av h' ⟨g1,g2⟩=>⟨g1,λ_ μ B w tmps f hH he hn hf hG hC=>ag.cond (t:=false) (au he q1).bool (g2 trivial μ B w tmps f hH he hn hf hG hC)⟩⟩
  ·cases hh
 ·cases hh;exact bh λf K tmps w h=>ag.block h
 ·cases hh;exact bh λf K tmps w h=>ag.loop h
 ·split at hh
  ·rename_i k' hk
   cases hh;exact bh λf K tmps w h=>ag.exit hk h
  ·cases hh
 ·split at hh
  ·rename_i k' hk
   cases hh;exact bh λf K tmps w h=>ag.goto hk h
  ·cases hh
 ·cases hh
 ·split at hh
  ·cases hh;exact lT
  ·rename_i id ops d
   obtain ⟨ay,qz,h1,q1,q2,q3⟩:=uT (P:=P) (ds:=ds) hT hF hE aD hM hh
   cases q1
   exact ⟨q2,λv av h' ⟨g1,g2⟩=>⟨zau q2 g1,λ_ μ B w tmps f hH he hn hf hG hC=>q3 μ B w tmps f _ _ _ hH he hn (λo a b=>hf o a (zag b g1)) hG hC λμ' w' dT c1 c2 c3 c4 =>
    (g2 trivial μ' B w' dT f c1 c2 c3 (c4.eu hf q2) (c4.eE hH hG) (hC.mono c4.le)).mono λe w2 hp=>hp.later c4⟩⟩
 ·obtain ⟨v,q1,hh⟩:=az hh
  exact pT hF aD q1 hh
 ·split at hh
  ·cases hh
  ·rename_i fQ
   split at hh
   ·rename_i fn hg
    exact sQ hT hF aD (hF.fn hg).1 fQ (.inr ⟨_,rfl⟩) hh
   ·cases hh
 ·cases hh
theorem uU (hT:bA P T) (hF:kL P F) (hE:mG P E) (aD:cj P run) (hM:P.follows .mixedOrders=true) {s:FZ} (hh:step T F E run cx s=.v r):qy P cx s r:=by
 unfold step at hh
 split at hh
 ·split at hh
  ·rename_i lo fQ
   split at hh
   ·split at hh
    ·rename_i lj
     cases hh
     refine ⟨zab _,λ_ μ B w tmps f hH he hn hf hG hC=>?_⟩
     obtain ⟨a,b,c,d⟩:=hC
     obtain ⟨wO,uN,ro,dk⟩:=f
     simp only at a b c d
     subst a
     cases d
     rw[fQ] at c
     rw[lj] at b
     subst b
     cases ro with
     | none=>cases c
     | some b'=>exact ag.n7 (cL hH (.c _))
    ·cases hh
   ·cases hh
  ·rename_i fQ
   split at hh
   ·rename_i fn hg
    split at hh
    ·exact sQ hT hF aD (hF.fn hg).1 fQ (.inl ⟨rfl,rfl⟩) hh
    ·cases hh
   ·cases hh
 ·split at hh
  ·exact rQ hT hF hE aD hM hh
  ·cases hh;exact bh λf K tmps w h=>ag.inBlock h
  ·cases hh;exact bh λf K tmps w h=>ag.inLoop h
  ·split at hh
   ·rename_i lo fQ
    split at hh
    ·rename_i fn n e ps a b hg
     split at hh
     ·rename_i lj
      obtain ⟨h1,q1,q2⟩:=aS hh
      cases q1
      refine ⟨zab _,λv av h' ⟨g1,g2⟩=>⟨g1,λ_ μ B w tmps f hH he hn hf hG hC=>?_⟩⟩
      have Bd:=hC
      obtain ⟨ca,cb,cc,cd⟩:=hC
      obtain ⟨wO,uN,ro,dk⟩:=f
      simp only at ca cb cc cd
      subst ca
      rw[fQ] at cc
      rw[lj] at cb
      subst cb
      cases ro with
      | none=>cases cc
      | some b' =>
       obtain ⟨pl,hp,bY⟩:=cc
       subst bY
       obtain ⟨jT,r1,lp,r2,r3,r4,r5,r6,r7,r8,r9,zN⟩:=hH.ob lo _ hg
       rw[hp] at r1;cases r1
       obtain ⟨t1,t2⟩:=iQ (n:=_) hH hg hp r2 (st:=.busy) (b':=false) rfl q2
       have aP:(getObj pl.b).run P w=.ok (.loop lp) w:=by simp[getObj,Sem.run,r2]
       refine ag.beginRound (w':={ w with heap:=w.heap.setIfInBounds pl.b (.loop { lp with state:=.busy }) }) ?_ ((g2 trivial μ B _ tmps _ t1 he hn hf (t2.eE hH hG) Bd).mono λe w hp=>hp.later t2)
       simp only[Instr.beginRound,Instr.getLoop,Sem.run_bind,aP,Result.andThen_ok,Sem.run_pure,gZ r2,r4]
       rfl
     ·cases hh
    ·cases hh
   ·cases hh
  ·cases hh
 ·cases hh
  rename_i l k env nx h ds
  refine ⟨zab _,λv av h' ⟨g1,g2⟩=>⟨g1,λ_ μ B w tmps f hH he hn hf hG hC=>?_⟩⟩
  have e:db (.o l [] k)=.inRegion ⟨l⟩ []::k:=by
   show Item.inRegion _ _::k=_
   rw[zcl (by simp)]
  show ag P f _ (db (.o l [] k)) tmps w
  rw[e]
  exact ag.iz (g2 trivial μ B w tmps f hH he hn hf hG hC)
 ·split at hh
  ·cases hh
  ·exact wP hT hF hE aD hh
theorem rR (hT:bA P T) (hF:kL P F) (hE:mG P E) (aD:cj P run) (hM:P.follows .mixedOrders=true):∀ {n:Nat} {s:FZ} {r:S1},it T F E run cx n s=.v r->qy P cx s r
 | 0,s,r,hh=>uU hT hF hE aD hM hh
 | n+1,s,r,hh=>by
  have ng:(match it T F E run cx n s with|.v (.go s)=>it T F E run cx n s|r=>r)=.v r:=hh
  generalize hq:it T F E run cx n s=q at ng
  cases q with
  | e a b=>cases ng
  | v q=>cases q with
   | fin a b c =>
    cases ng
    exact rR hT hF hE aD hM hq
   | go s1 =>
    obtain ⟨a1,a2⟩:qy P cx s (.go s1):=rR hT hF hE aD hM hq
    have h2:qy P cx s1 r:=rR hT hF hE aD hM ng
    cases r with
    | go s2=>exact ⟨zau a1 h2.1,λv av h' g=>a2 v av h' (h2.2 v av h' g)⟩
    | fin v av h'=>exact a2 v av h' h2
theorem qc (hT:bA P T) (hF:kL P F) (hE:mG P E) (hM:P.follows .mixedOrders=true) (m:Nat):∀ d,cj P (runN T F E m d)
 | 0=>λcx s k r hh=>by
  unfold runN at hh
  cases hh
 | d+1=>λcx s k r hh=>by
  unfold runN at hh
  split at hh
  ·rename_i v nx h h1
   exact ⟨v,nx,h,hh,rR hT hF hE (qc hT hF hE hM m d) hM h1⟩
  ·cases hh
  ·cases hh
end step
section tables
variable {P:uF} {r:S1}
theorem jM {α:Type} {g:Nat->J α}:∀ {n i:Nat} {t:Tr α} {k:Tr α->X S1},build g n i t k=.v r->(∀ j a,t.get j=some a->g j=some a)->∃ t',k t'=.v r/\∀ j a,t'.get j=some a->g j=some a
 | 0,i,t,k,hh,ht=>⟨t,hh,ht⟩
 | n+1,i,t,k,hh,ht=>by
  unfold build at hh
  split at hh
  ·rename_i a ha
   obtain ⟨t1,q1,q2⟩:=aS hh
   refine jM q1 λj b hb=>?_
   rw[q2 j] at hb
   by_cases e:j=i
   ·subst e;rw[zam rfl] at hb;cases hb;exact ha
   ·rw[zaj e] at hb;exact ht j b hb
  ·exact jM hh ht
theorem uV {β:Type} (i:TI) (k:TI->β):yx i k=k i:=by
 unfold yx
 split
 ·rename_i fs s z ez e eg g fk fq eb
  rw[dK (f:=id) (λx k=>by rw[aB,aB,aB];rfl),aB,gT,aB]
  simp
 ·simp only[aB,gT]
 ·simp only[aB,gT]
 ·simp only[aB,gT]
 ·simp only[aB,gT]
theorem hU:∀ {n i:Nat} {t:Tr TI} {k:Tr TI->X S1},gS P n i t k=.v r->(∀ j a,t.get j=some a->qU P j=some a)->∃ t',k t'=.v r/\bA P t'
 | 0,i,t,k,hh,ht=>⟨t,hh,ht⟩
 | n+1,i,t,k,hh,ht=>by
  unfold gS at hh
  split at hh
  ·rename_i a ha
   rw[uV] at hh
   obtain ⟨t1,q1,q2⟩:=aS hh
   refine hU q1 λj b hb=>?_
   rw[q2 j] at hb
   by_cases e:j=i
   ·subst e;rw[zam rfl] at hb;cases hb;exact ha
   ·rw[zaj e] at hb;exact ht j b hb
  ·exact hU hh ht
end tables
theorem uW {P:uF} {E:Nat->J (O V->Tr Ob->(V->X S1)->X S1)} {f:Nat} {xs:O V} {v:V} {nx:Nat} {h:Tr Ob} (hE:mG P E) (hM:P.follows .mixedOrders=true) (hh:main P E .e f xs=.v (.fin v nx h)) :
  ∀ w us,(∀ μ,Rs μ xs us)->aO w.heap.size w->Calls P f ⟨us⟩ w λe w'=>∃ u μ,e=.returned u/\R μ v u/\Below w.heap.size w w':=by
 intro w us hR hG
 unfold main at hh
 obtain ⟨T,q1,hT⟩:=hU hh (λj a h=>by cases h)
 obtain ⟨F,q2,hF⟩:=jM q1 (λj a h=>by cases h)
 obtain ⟨v',av,h',q3,q4,q5,q6⟩:=e7 hF (qc hT hF hE hM 40 60) q2
 cases q3
 have h0:HR (λ_=>none) w.heap.size (Tr.e:Tr Ob).get w:=⟨zab _,λo x h=>(by cases h),λo x pl h=>(by cases h),λo cs pl h=>(by cases h),λo o' x x' pl pl' _ h=>(by cases h)⟩
 have:=q6 (λ_=>none) w.heap.size w us h0 (hR _) (λ_ _ _=>rfl) hG
 exact this.mono λe w' ⟨u,μ',a,b,c,d⟩=>⟨u,μ',a,b,d.below h0⟩
noncomputable def isTrue (x:X S1):Bool:=match x with
 | .v (.fin (.c (.bool b)) _ _)=>b
 | _=>false
noncomputable def qd (r:List uA) (k:V->X S1):X S1:=ll (λ(b:uA) k=>fN b.toNat k) r λl=>k (.s l)
theorem qe {r:O uA} {k:V->X S1} {z:S1} (hh:qd r k=.v z):k (.s (r.map UInt8.toNat))=.v z:=by
 unfold qd at hh
 rw[dK (f:=UInt8.toNat) (λb k=>aB _ _)] at hh
 exact hh
noncomputable def lU (f:Int->Option (List uA)) (xs:List V) (h:Tr Ob) (k:V->X S1):X S1:=match xs with
 | [.c (.int .i64 n)]=>match f n with
  | some r=>qd r k
  | none=>no 300
 | _=>no 301
def rT (P:uF) (g:Nat) (x:List V->Tr Ob->(V->X S1)->X S1):Prop :=
 Enters P g/\∀ xs h k r,x xs h k=.v r->∃ v,k v=.v r/\∀ μ B w us,HR μ B h.get w->Rs μ xs us->aO B w->Calls P g ⟨us⟩ w λe w'=>∃ u,e=.returned u/\R μ v u/\Below w.heap.size w w'
theorem qf {P:uF} {g:Nat} {f:Int->J (O uA)} (w7:Enters P g) (hf:∀ n r,f n=some r->bj P g [.ex (.int .i64 n)] (·=.ex (.string ⟨r.toArray⟩))):rT P g (lU f):=by
 refine ⟨w7,λxs h k z hh=>?_⟩
 unfold lU at hh
 split at hh
 ·rename_i n
  split at hh
  ·rename_i r hr
   refine ⟨_,qe hh,λμ B w us hH hR hG=>?_⟩
   cases hR with
   | cons h1 h2 =>
    cases h2
    cases h1
    refine (hf n r hr (λ_=>0) w _ (hG.mono hH.size) ⟨rfl,λi x v hx hv=>?_⟩).mono λe w' ⟨v,q,aC,a,b,c,d,e2,e3⟩=>?_
    ·cases i with
     | zero=>simp at hx hv;subst hx;subst hv;exact .ex _
     | succ i=>simp at hx
    ·subst b
     cases c
     exact ⟨_,a,.s r,e2⟩
  ·cases hh
 ·cases hh
noncomputable def lV (l:List Nat):List uA:=l.map UInt8.ofNat
theorem fe (bs:O uA):lV (bs.map UInt8.toNat)=bs:=by
 unfold lV
 rw[List.map_map]
 exact (List.map_congr_left λb _=>by simp).trans (List.map_id bs)
noncomputable def texts:List V->Option (List (List uA))
 | []=>some []
 | .s l::r=>match texts r with
  | some m=>some (lV l::m)
  | none=>none
 | _::_=>none
theorem mO {μ:Mp}:∀ {cs:O V} {xs:O (O uA)} {us:O uB},texts cs=some xs->Rs μ cs us->us=xs.map λx=>.string ⟨x.toArray⟩
 | [],xs,us,h,hR=>by cases h;cases hR;rfl
 | c::cs,xs,us,h,hR=>by
  cases hR with
  | cons h1 h2 =>
   cases h1 with
   | s bs =>
    unfold texts at h
    split at h
    ·rename_i m hm
     cases h
     rw[mO hm h2,fe]
     rfl
    ·cases h
   | _=>cases h
noncomputable def lW (f:List (List uA)->List uA->Option (List uA)) (xs:List V) (h:Tr Ob) (k:V->X S1):X S1:=match xs with
 | [x,.s sep]=>match x with
  | .s _=>no 302
  | x=>src h 1 x λ_ cs=>match texts cs with
   | some xs=>match f xs (lV sep) with
    | some r=>qd r k
    | none=>no 303
   | none=>no 304
 | _=>no 305
theorem qg {P:uF} {g:Nat} {f:List (List uA)->List uA->Option (List uA)} (w7:Enters P g)
  (hf:∀ xs sep r,f xs sep=some r->bj P g [.sl 1 (xs.map λx=>[.ex (.string ⟨x.toArray⟩)]),.ex (.string ⟨sep.toArray⟩)] (·=.ex (.string ⟨r.toArray⟩))):rT P g (lW f):=by
 refine ⟨w7,λxs h k z hh=>?_⟩
 unfold lW at hh
 split at hh
 ·rename_i x sep
  split at hh
  ·cases hh
  ·rename_i yB
   have main:∀ {n:Nat} {cs:List V},(match texts cs with
      | some xs=>match f xs (lV sep) with
       | some r=>qd r k
       | none=>no 303
      | none=>no 304)=.v z->(∀ μ B w u,HR μ B h.get w->R μ x u->∃ (ae:Nat->Nat) (us:List uB),Rs μ cs us/\∀ ys:List (List uA),us=ys.map (λy=>.string ⟨y.toArray⟩)->aJ ae w (.sl 1 (ys.map λy=>[.ex (.string ⟨y.toArray⟩)])) u) ->
     ∃ v,k v=.v z/\∀ μ B w us,HR μ B h.get w->Rs μ [x,.s sep] us->aO B w->Calls P g ⟨us⟩ w λe w'=>∃ u,e=.returned u/\R μ v u/\Below w.heap.size w w':=fun {n cs} hh hs=>by
    split at hh
    ·rename_i ys hy
     split at hh
     ·rename_i r hr
      refine ⟨_,qe hh,λμ B w us hH hR hG=>?_⟩
      cases hR with
      | cons h1 h2 =>
       cases h2 with
       | cons h2 h3 =>
        cases h3
        obtain ⟨ae,vs,k1,k2⟩:=hs μ B w _ hH h1
        have hD:=k2 ys (mO hy k1)
        cases h2 with
        | s bs =>
         rw[fe] at hr
         refine (hf ys bs r hr ae w _ (hG.mono hH.size) ⟨rfl,λi a v hx hv=>?_⟩).mono λe w' ⟨v,q,aC,a,b,c,d,e2,e3⟩=>?_
         ·match i with
          | 0=>simp at hx hv;subst hx;subst hv;exact hD
          | 1=>simp at hx hv;subst hx;subst hv;exact .ex _
          | n+2=>simp at hx
         ·subst b
          cases c
          exact ⟨_,a,.s r,e2⟩
     ·cases hh
    ·cases hh
   rcases po hh with ⟨l,rfl,_,_⟩|⟨hz,hq⟩|⟨o,off,n,c,cs,rfl,bE,hle,hq⟩
   ·exact absurd rfl (yB l)
   ·refine main (n:=0) hq λμ B w u hH hR=>⟨λ_=>0,[],.nil,λys hy=>?_⟩
    have:ys=[]:=by cases ys<;>first|rfl|cases hy
    subst this
    rcases hz with rfl|rfl
    ·cases hR;exact .nil 1 none
    ·cases hR with
     | z b off kk=>exact .sl 1 [] b off kk (zba _) (λr hr=>by cases hr) (λk hk=>by simp at hk) (λi j row c u hr=>by simp at hr)
   ·refine main (n:=n) hq λμ B w u hH hR=>?_
    obtain ⟨pl,wC,hp,uI⟩:=iM bE hH
    obtain ⟨vs,kK,cJ⟩:=bZ uI
    have xf:=kK.len
    cases hR with
    | l _ _ _ kc bw lG hc =>
     rw[hp] at bw;cases bw
     refine ⟨λ_=>pl.base+off+n,(vs.drop off).take (n*1),(kK.drop off).take _,λys hy=>?_⟩
     have xG:ys.length=n:=by
      have:=zao List.length hy
      simp at this
      omega
     have aP:∀ i,i<n->∃ y,ys[i]?=some y/\w.cell? ⟨pl.b,pl.base+off+i,none⟩=some (.string ⟨y.toArray⟩):=λi hi=>by
      refine ⟨ys[i]'(by omega),zad (by omega),?_⟩
      have h1:((vs.drop off).take (n*1))[i]?=some (.string ⟨(ys[i]'(by omega)).toArray⟩):=by rw[hy];simp
      rw[zai,zam (by omega),zbp] at h1
      rw[zay]
      exact cJ.get _ _ h1
     have hD:=aJ.sl (ae:=λ_=>pl.base+off+n) (w:=w) 1 (ys.map λy=>[D.ex (.string ⟨y.toArray⟩)]) pl.b (pl.base+off) kc (by simp;omega) (λrow hr=>by
      obtain ⟨y,_,rfl⟩:=zcs.1 hr;rfl) (λi hi=>by
      have fZ:i<n:=by simpa [xG] using hi
      obtain ⟨y,_,h2⟩:=aP i fZ
      exact ⟨by omega,_,h2,rfl⟩) (λi j row c u hr hc hu=>by
      have sn:i<n:=by have:=(zaa.1 hr).1;simpa [xG] using this
      obtain ⟨y,h1,h2⟩:=aP i sn
      rw[zap,h1] at hr
      cases hr
      cases j with
      | zero =>
       simp at hc hu
       subst hc
       rw[h2] at hu
       cases hu
       exact .ex _
      | succ j=>simp at hc)
     simp only[zbx,xG] at hD
     exact hD
 ·cases hh
noncomputable def rU (f:List uA->List uA->Option Int) (xs:List V) (h:Tr Ob) (k:V->X S1):X S1:=match xs with
 | [.s a,.s b]=>match f (lV a) (lV b) with
  | some n=>fI n λn=>k (.c (.int .i64 n))
  | none=>no 306
 | _=>no 307
theorem qh {P:uF} {g:Nat} {f:List uA->List uA->Option Int} (w7:Enters P g)
  (hf:∀ a b n,f a b=some n->bj P g [.ex (.string ⟨a.toArray⟩),.ex (.string ⟨b.toArray⟩)] (·=.ex (.int .i64 n))):rT P g (rU f):=by
 refine ⟨w7,λxs h k z hh=>?_⟩
 unfold rU at hh
 split at hh
 ·rename_i a b
  split at hh
  ·rename_i n hn
   rw[o5] at hh
   refine ⟨_,hh,λμ B w us hH hR hG=>?_⟩
   cases hR with
   | cons h1 h2 =>
    cases h2 with
    | cons h2 h3 =>
     cases h3
     cases h1 with
     | s ax =>
      cases h2 with
      | s bx =>
       rw[fe,fe] at hn
       refine (hf ax bx n hn (λ_=>0) w _ (hG.mono hH.size) ⟨rfl,λi x v hx hv=>?_⟩).mono λe w' ⟨v,q,aC,a,b,c,d,e2,e3⟩=>?_
       ·match i with
        | 0=>simp at hx hv;subst hx;subst hv;exact .ex _
        | 1=>simp at hx hv;subst hx;subst hv;exact .ex _
        | n+2=>simp at hx
       ·subst b
        cases c
        exact ⟨_,a,.c _,e2⟩
  ·cases hh
 ·cases hh
noncomputable def xH:List (Nat×(List V->Tr Ob->(V->X S1)->X S1))->Nat->Option (List V->Tr Ob->(V->X S1)->X S1)
 | [],_=>none
 | (i,x)::l,n=>match Nat.beq n i with
  | true=>some x
  | false=>xH l n
theorem sX {P:uF}:∀ {l:O (Nat×(O V->Tr Ob->(V->X S1)->X S1))},(∀ x,x∈l->rT P x.1 x.2)->mG P (xH l)
 | [],_=>λg z hz=>by cases hz
 | (i,x)::l,hl=>λg z hz=>by
  unfold xH at hz
  split at hz
  ·rename_i h;cases hz;rw[zae h];exact hl (i,x) (List.mem_cons_self ..)
  ·exact sX (λy hy=>hl y (zby _ hy)) g z hz
theorem uX {P:uF} {E:Nat->J (O V->Tr Ob->(V->X S1)->X S1)} {f:Nat} {xs:O V} {ds:O D} (hE:mG P E) (hM:P.follows .mixedOrders=true) (hh:isTrue (main P E .e f xs)=true)
  (hd:∀ ae w vs,fH ae w ds vs->∀ μ,Rs μ xs vs.toList):bj P f ds (·=.ex (.bool true)):=by
 unfold isTrue at hh
 split at hh
 ·rename_i b nx h hq
  subst hh
  intro ae w vs hG hA
  refine (uW hE hM hq w vs.toList (hd ae w vs hA) hG).mono λe w' ⟨u,μ,a,b,c⟩=>?_
  cases b
  exact ⟨_,_,ae,a,rfl,.ex _,ic c.size λb hb=>⟨zab _,.inr (c.block b hb)⟩,c,λ_ _=>rfl⟩
 ·cases hh
theorem uY (a b:Int):∀ ae w vs,fH ae w [.agg [.ex (.int .i64 a),.ex (.int .i64 b)]] vs->∀ μ,Rs μ [.a [.c (.int .i64 a),.c (.int .i64 b)]] vs.toList:=λae w vs h μ=>by
 obtain ⟨h1,h2⟩:=h
 have hs:vs.toList.length=1:=by simpa using h1
 match hv:vs.toList,hs with
 | [u],_ =>
  have h3:=h2 0 _ u rfl (by rw[←zcc,hv];rfl)
  cases h3 with
  | agg cs Be hs h1 hc =>
   obtain ⟨vl⟩:=Be
   match vl,hs with
   | [x,y],_ =>
    have hx:=hc 0 _ x rfl rfl
    have hy:=hc 1 _ y rfl rfl
    cases hx
    cases hy
    exact .cons (.a (.cons (.c _) (.cons (.c _) .nil)) (λu hu=>by simp at hu;rcases hu with rfl|rfl<;>rfl)) .nil
end Go.CI
namespace Go.Abs
open Go.RowKit
theorem fH.one {ae:Nat->Nat} {w:uC} {d:D} {vs:uD uB} (h:fH ae w [d] vs):∃ v,vs=#[v]/\aJ ae w d v:=by
 obtain ⟨h1,h2⟩:=h
 match vs,h1 with
 | ⟨[v]⟩,_=>exact ⟨v,rfl,h2 0 d v rfl rfl⟩
theorem fH.two {ae:Nat->Nat} {w:uC} {d e:D} {vs:uD uB} (h:fH ae w [d,e] vs):∃ v u,vs=#[v,u]/\aJ ae w d v/\aJ ae w e u:=by
 obtain ⟨h1,h2⟩:=h
 match vs,h1 with
 | ⟨[v,u]⟩,_=>exact ⟨v,u,rfl,h2 0 d v rfl rfl,h2 1 e u rfl rfl⟩
theorem lX (w:uC) (k:Nat) (os:uD Obj):Below w.heap.size w (Go.Sort.grow (w.drewN k) os) :=
 ⟨rfl,rfl,rfl,by simp[Go.Sort.grow],λb hb=>by
  show ((w.drewN k).heap++os)[b]?=_
  rw[zcd (show b<(w.drewN k).heap.size from hb)]
  rfl⟩
theorem bj.xI {P:uF} {f:FuncId} {args:O D} {u:uB}
  (h:∀ ae w vs,aO w.heap.size w->fH ae w args vs->Calls P f vs w λe w'=>e=.returned u/\Below w.heap.size w w'):bj P f args (·=.ex u):=by
 intro ae w vs hg ha
 refine (h ae w vs hg ha).mono ?_
 rintro e w' ⟨rfl,hb⟩
 exact ⟨u,.ex u,ae,rfl,rfl,.ex u,⟨hb.size,λ_ _=>zab _,λb off bY _=>hb.cell (p:=⟨b,off,none⟩) bY⟩,hb,λ_ _=>rfl⟩
theorem lY {ae:Nat->Nat} {w:uC} {xs:O (O uA)} {v:uB} (h:aJ ae w (.sl 1 (xs.map rS)) v) :
  (∃ A c,v=.slice A 0 c/\xs=[])∨∃ b off c,v=.slice (some ⟨b,off,none⟩) xs.length c/\xs.length<=c/\b<w.heap.size/\∀ (j:Nat) x,xs[j]?=some x->w.cell? ⟨b,off+j,none⟩=some (.string ⟨x.toArray⟩):=by
 generalize hr:xs.map rS=rows at h
 cases h with
 | nil _ A =>
  have:xs=[]:=by simpa using hr
  exact .inl ⟨A,0,rfl,this⟩
 | sl _ _ b off c hc bE hx bG =>
  subst hr
  rw[zbx] at *
  by_cases h0:xs=[]
  ·subst h0;exact .inl ⟨_,c,rfl,rfl⟩
  ·refine .inr ⟨b,off,c,rfl,hc,?_,λj x hj=>?_⟩
   ·have hl:0<xs.length:=zda.2 h0
    obtain ⟨_,u,hu,_⟩:=hx 0 (by omega)
    exact World.block_lt_of_cell? w _ hu
   ·have nh:=(zaa.1 hj).1
    obtain ⟨_,u,hu,_⟩:=hx j (by omega)
    have:=bG j 0 (rS x) (.ex (.string ⟨x.toArray⟩)) u (by rw[zap,hj];rfl) rfl (by rw[Nat.mul_one,zcr];exact hu)
    rw[hu,cX this]
end Go.Abs
namespace Go.Proofs.YtmabakgaacegjaaGreatDoor
open Go.Shelf Go.Proofs.Tryz
def Tryz.fW:Go.Shelf.Ren:=⟨fun|156=>122|165=>159|166=>160|169=>161|240=>187|241=>188|276=>207|277=>208|n=>n,fun|31=>160|9=>9|3=>3|4=>4|0=>0|20=>20|72=>236|76=>239|70=>234|37=>29|75=>238|127=>266|164=>288|5=>5|80=>193|n=>n,fun|n=>n⟩
theorem Tryz.mP:Go.Proofs.Lays.n156 prog Tryz.fW:={
 mixed:=by kernel_rfl
 f156:=func122.trans (zao some (by kernel_rfl))
 f165:=func159.trans (zao some (by kernel_rfl))
 f166:=func160.trans (zao some (by kernel_rfl))
 f169:=func161.trans (zao some (by kernel_rfl))
 f240:=func187.trans (zao some (by kernel_rfl))
 f241:=func188.trans (zao some (by kernel_rfl))
 f276:=func207.trans (zao some (by kernel_rfl))
 f277:=func208.trans (zao some (by kernel_rfl))
 t0:=underlying0
 a0:=Tryz.isAgg0
 z0:=Tryz.sizeOf0
 v0:=Tryz.zeroValue0
 t3:=underlying3
 a3:=Tryz.isAgg3
 z3:=Tryz.sizeOf3
 v3:=Tryz.zeroValue3
 t4:=underlying4
 a4:=Tryz.isAgg4
 z4:=Tryz.sizeOf4
 v4:=Tryz.zeroValue4
 t9:=underlying9
 a9:=Tryz.isAgg9
 z9:=Tryz.sizeOf9
 v9:=Tryz.zeroValue9
 t20:=underlying20
 a20:=Tryz.isAgg20
 z20:=Tryz.sizeOf20
 v20:=Tryz.zeroValue20
 t31:=underlying160
 a31:=Tryz.isAgg160
 z31:=Tryz.sizeOf160
 v31:=Tryz.zeroValue160
 t37:=underlying29
 a37:=Tryz.isAgg29
 z37:=Tryz.sizeOf29
 v37:=Tryz.zeroValue29
 t70:=underlying234
 a70:=Tryz.isAgg234
 z70:=Tryz.sizeOf234
 v70:=Tryz.zeroValue234
 t72:=underlying236
 a72:=Tryz.isAgg236
 z72:=Tryz.sizeOf236
 v72:=Tryz.zeroValue236
 t75:=underlying238
 a75:=Tryz.isAgg238
 z75:=Tryz.sizeOf238
 v75:=Tryz.zeroValue238
 t76:=underlying239
 a76:=Tryz.isAgg239
 z76:=Tryz.sizeOf239
 v76:=Tryz.zeroValue239
 t127:=underlying266
 a127:=Tryz.isAgg266
 z127:=Tryz.sizeOf266
 v127:=Tryz.zeroValue266
 t164:=underlying288
 a164:=Tryz.isAgg288
 z164:=Tryz.sizeOf288
 v164:=Tryz.zeroValue288 }
theorem Tryz.cu:Builder.Extra prog Tryz.fW:={
 sizeBuilder:=by kernel_rfl
 liesBuilder:=by kernel_rfl
 t5:=underlying5
 a5:=Tryz.isAgg5
 z5:=Tryz.sizeOf5
 v5:=Tryz.zeroValue5
 infoByte:=by kernel_rfl
 cellsByte:=by kernel_rfl
 sizeByte:=by kernel_rfl
 neB5:=by decide }
open Go.RowKit in
theorem Tryz.strings_Join_none (a:J Addr) (c:Nat) (sep:ByteArray) (w:uC) :
  Calls prog 122 #[.slice a 0 c,.string sep] w λe w'=>e=.returned (.string ⟨#[]⟩)/\w'=w:=Any.strings_Join_none Tryz.mP Tryz.cu a c sep w
open Go.RowKit in
theorem Tryz.strings_Join (bk o c:Nat) (xs:O ByteArray) (sep:ByteArray) (w:uC) (iY:∀ (j:Nat) x,xs[j]?=some x->w.cell? ⟨bk,o+j,none⟩=some (.string x)) (Bf:bk<w.heap.size) (hN:xs.length<=140737488355328) (ku:xs.length<=c) (hlen:(Lib.join (xs.map (·.data.toList)) sep.data.toList).length<=140737488355328) :
  Calls prog 122 #[.slice (some ⟨bk,o,none⟩) xs.length c,.string sep] w λe w'=>e=.returned (.string ⟨(Lib.join (xs.map (·.data.toList)) sep.data.toList).toArray⟩)/\Below w.heap.size w w':=Any.strings_Join Tryz.mP Tryz.cu bk o c xs sep w iY Bf hN ku hlen
def Tryz.jN:Go.Shelf.Ren:=⟨fun|171=>121|243=>158|246=>186|283=>203|284=>204|285=>205|286=>206|129=>136|317=>214|318=>215|319=>216|320=>217|337=>220|338=>221|n=>n,fun|3=>3|9=>9|2=>2|4=>4|171=>284|0=>0|53=>78|37=>29|5=>5|173=>286|212=>303|51=>75|20=>20|213=>304|46=>77|232=>310|233=>311|n=>n,fun|17=>1|18=>4|19=>5|n=>n⟩
theorem Tryz.qi:Go.Proofs.LaysM.n171 prog Tryz.jN:={
 mixed:=by kernel_rfl
 f129:=func136.trans (zao some (by kernel_rfl))
 f171:=func121.trans (zao some (by kernel_rfl))
 f243:=func158.trans (zao some (by kernel_rfl))
 f246:=func186.trans (zao some (by kernel_rfl))
 f283:=func203.trans (zao some (by kernel_rfl))
 f284:=func204.trans (zao some (by kernel_rfl))
 f285:=func205.trans (zao some (by kernel_rfl))
 f286:=func206.trans (zao some (by kernel_rfl))
 f317:=func214.trans (zao some (by kernel_rfl))
 f318:=func215.trans (zao some (by kernel_rfl))
 f319:=func216.trans (zao some (by kernel_rfl))
 f320:=func217.trans (zao some (by kernel_rfl))
 f337:=func220.trans (zao some (by kernel_rfl))
 f338:=func221.trans (zao some (by kernel_rfl))
 t0:=underlying0
 a0:=Tryz.isAgg0
 z0:=Tryz.sizeOf0
 v0:=Tryz.zeroValue0
 t2:=underlying2
 a2:=Tryz.isAgg2
 z2:=Tryz.sizeOf2
 v2:=Tryz.zeroValue2
 t3:=underlying3
 a3:=Tryz.isAgg3
 z3:=Tryz.sizeOf3
 v3:=Tryz.zeroValue3
 t4:=underlying4
 a4:=Tryz.isAgg4
 z4:=Tryz.sizeOf4
 v4:=Tryz.zeroValue4
 t5:=underlying5
 a5:=Tryz.isAgg5
 z5:=Tryz.sizeOf5
 v5:=Tryz.zeroValue5
 t9:=underlying9
 a9:=Tryz.isAgg9
 z9:=Tryz.sizeOf9
 v9:=Tryz.zeroValue9
 t20:=underlying20
 a20:=Tryz.isAgg20
 z20:=Tryz.sizeOf20
 v20:=Tryz.zeroValue20
 t37:=underlying29
 a37:=Tryz.isAgg29
 z37:=Tryz.sizeOf29
 v37:=Tryz.zeroValue29
 t46:=underlying77
 a46:=Tryz.isAgg77
 z46:=Tryz.sizeOf77
 v46:=Tryz.zeroValue77
 t51:=underlying75
 a51:=Tryz.isAgg75
 z51:=Tryz.sizeOf75
 v51:=Tryz.zeroValue75
 t53:=underlying78
 a53:=Tryz.isAgg78
 z53:=Tryz.sizeOf78
 v53:=Tryz.zeroValue78
 t171:=underlying284
 a171:=Tryz.isAgg284
 z171:=Tryz.sizeOf284
 v171:=Tryz.zeroValue284
 t173:=underlying286
 a173:=Tryz.isAgg286
 z173:=Tryz.sizeOf286
 v173:=Tryz.zeroValue286
 t212:=underlying303
 a212:=Tryz.isAgg303
 z212:=Tryz.sizeOf303
 v212:=Tryz.zeroValue303
 t213:=underlying304
 a213:=Tryz.isAgg304
 z213:=Tryz.sizeOf304
 t232:=underlying310
 a232:=Tryz.isAgg310
 z232:=Tryz.sizeOf310
 v232:=Tryz.zeroValue310
 t233:=underlying311
 a233:=Tryz.isAgg311
 z233:=Tryz.sizeOf311
 v233:=Tryz.zeroValue311
 g17:=by kernel_rfl
 g18:=by kernel_rfl
 g19:=by kernel_rfl
 i0:=by kernel_rfl
 i2:=by kernel_rfl
 i3:=by kernel_rfl
 i4:=by kernel_rfl
 i5:=by kernel_rfl
 i9:=by kernel_rfl
 i20:=by kernel_rfl
 i37:=by kernel_rfl
 i46:=by kernel_rfl
 i51:=by kernel_rfl
 i53:=by kernel_rfl
 i171:=by kernel_rfl
 i173:=by kernel_rfl
 i212:=by kernel_rfl
 i232:=by kernel_rfl
 i233:=by kernel_rfl
 m17:=by kernel_rfl
 m18:=by kernel_rfl
 m19:=by kernel_rfl }
open Go.RowKit Go.Sort Go.Lib in
theorem Tryz.strconv_Itoa (n:Int) (h0:-9223372036854775808<=n) (h1:n<=9223372036854775807) (w:uC) (zf:Lib.TabIs prog w "internal/strconv.uint64pow10" .u64 Lib.pow10Tab) :
  Calls prog 121 #[.int .i64 n] w λe w'=>e=.returned (.string ⟨(Lib.itoa n).toArray⟩)/\∃ k os,w'=grow (w.drewN k) os:=Any.strconv_Itoa Tryz.qi n h0 h1 w zf
def Tryz.kF:Go.Shelf.Ren:=⟨fun|143=>117|219=>154|217=>181|225=>182|224=>183|267=>184|266=>201|314=>202|n=>n,fun|9=>9|3=>3|4=>4|5=>5|46=>77|146=>282|51=>75|n=>n,fun|1=>0|n=>n⟩
theorem Tryz.rV:Go.Proofs.Lays.n143 prog Tryz.kF:={
 mixed:=by kernel_rfl
 f143:=func117.trans (zao some (by kernel_rfl))
 f217:=func181.trans (zao some (by kernel_rfl))
 f219:=func154.trans (zao some (by kernel_rfl))
 f224:=func183.trans (zao some (by kernel_rfl))
 f225:=func182.trans (zao some (by kernel_rfl))
 f266:=func201.trans (zao some (by kernel_rfl))
 f267:=func184.trans (zao some (by kernel_rfl))
 f314:=func202.trans (zao some (by kernel_rfl))
 t3:=underlying3
 a3:=Tryz.isAgg3
 z3:=Tryz.sizeOf3
 v3:=Tryz.zeroValue3
 t4:=underlying4
 a4:=Tryz.isAgg4
 z4:=Tryz.sizeOf4
 v4:=Tryz.zeroValue4
 t5:=underlying5
 a5:=Tryz.isAgg5
 z5:=Tryz.sizeOf5
 v5:=Tryz.zeroValue5
 t9:=underlying9
 a9:=Tryz.isAgg9
 z9:=Tryz.sizeOf9
 v9:=Tryz.zeroValue9
 t46:=underlying77
 a46:=Tryz.isAgg77
 z46:=Tryz.sizeOf77
 v46:=Tryz.zeroValue77
 t51:=underlying75
 a51:=Tryz.isAgg75
 z51:=Tryz.sizeOf75
 v51:=Tryz.zeroValue75
 t146:=underlying282
 a146:=Tryz.isAgg282
 z146:=Tryz.sizeOf282
 v146:=Tryz.zeroValue282
 g1:=by kernel_rfl }
open Go.RowKit Go.Lib in
theorem Tryz.strings_Index (s sub:ByteArray) (m:Int) (w:uC) (hs:s.size<4294967281) (hm:w.cell? ⟨0,0,none⟩=some (.int .i64 m)) :
  Calls prog 117 #[.string s,.string sub] w λe w'=>e=.returned (.int .i64 (Lib.index s.data.toList sub.data.toList))/\w'=w:=Any.strings_Index Tryz.rV s sub m w hs hm
def Tryz.kG:Go.Shelf.Ren:=⟨fun|138=>180|195=>198|218=>200|143=>117|219=>154|217=>181|225=>182|224=>183|267=>184|266=>201|314=>202|n=>n,fun|9=>9|3=>3|4=>4|5=>5|0=>0|46=>77|146=>282|51=>75|n=>n,fun|1=>0|n=>n⟩
theorem Tryz.rW:Go.Proofs.Lays.n138 prog Tryz.kG:={
 mixed:=by kernel_rfl
 f138:=func180.trans (zao some (by kernel_rfl))
 f143:=func117.trans (zao some (by kernel_rfl))
 f195:=func198.trans (zao some (by kernel_rfl))
 f217:=func181.trans (zao some (by kernel_rfl))
 f218:=func200.trans (zao some (by kernel_rfl))
 f219:=func154.trans (zao some (by kernel_rfl))
 f224:=func183.trans (zao some (by kernel_rfl))
 f225:=func182.trans (zao some (by kernel_rfl))
 f266:=func201.trans (zao some (by kernel_rfl))
 f267:=func184.trans (zao some (by kernel_rfl))
 f314:=func202.trans (zao some (by kernel_rfl))
 t0:=underlying0
 a0:=Tryz.isAgg0
 z0:=Tryz.sizeOf0
 v0:=Tryz.zeroValue0
 t3:=underlying3
 a3:=Tryz.isAgg3
 z3:=Tryz.sizeOf3
 v3:=Tryz.zeroValue3
 t4:=underlying4
 a4:=Tryz.isAgg4
 z4:=Tryz.sizeOf4
 v4:=Tryz.zeroValue4
 t5:=underlying5
 a5:=Tryz.isAgg5
 z5:=Tryz.sizeOf5
 v5:=Tryz.zeroValue5
 t9:=underlying9
 a9:=Tryz.isAgg9
 z9:=Tryz.sizeOf9
 v9:=Tryz.zeroValue9
 t46:=underlying77
 a46:=Tryz.isAgg77
 z46:=Tryz.sizeOf77
 v46:=Tryz.zeroValue77
 t51:=underlying75
 a51:=Tryz.isAgg75
 z51:=Tryz.sizeOf75
 v51:=Tryz.zeroValue75
 t146:=underlying282
 a146:=Tryz.isAgg282
 z146:=Tryz.sizeOf282
 v146:=Tryz.zeroValue282
 g1:=by kernel_rfl }
open Go.RowKit Go.Lib in
theorem Tryz.strings_Count_one (s:ByteArray) (c:uA) (w:uC) :
  Calls prog 180 #[.string s,.string ⟨#[c]⟩] w λe w'=>e=.returned (.int .i64 (Lib.countByte s.data.toList c))/\w'=w:=Any.strings_Count_one Tryz.rW s c w
end Go.Proofs.YtmabakgaacegjaaGreatDoor
namespace Go.Proofs.YtmabakgaacegjaaGreatDoor
open Go.RowKit Go.Abs
def qj (n:Int):Option (List uA):=ck (-9223372036854775808<=n/\n<=9223372036854775807) (some (Go.Lib.itoa n))
def qk (xs:List (List uA)) (sep:List uA):Option (List uA):=ck (xs.length<=1000000000/\(Go.Lib.join xs sep).length<=1000000000) (some (Go.Lib.join xs sep))
def mQ (s sub:List uA):Option Int:=ck (s.length<=1000000000) (some (Go.Lib.index s sub))
def jO (s sub:List uA):Option Int:=match sub with
 | [c]=>some (Go.Lib.countByte s c)
 | _=>none
theorem uZ {w:uC} (h:aO w.heap.size w):Go.Lib.TabIs Tryz.prog w "internal/strconv.uint64pow10" .u64 Go.Lib.pow10Tab:=by
 obtain ⟨_,ty,fr,h2⟩:=h.1 (1,(Go.Lib.pow10Tab.map λz=>Value.int .u64 z).toArray) (by simp[GL])
 have hn:Tryz.prog.globalNamed "internal/strconv.uint64pow10" = some 1:=by kernel_rfl
 unfold Go.Lib.TabIs World.var?
 rw[hn]
 simp only[zat]
 simp only at h2
 rw[h2]
theorem u0 {w:uC} (h:aO w.heap.size w):∃ m,w.cell? ⟨0,0,none⟩=some (.int .i64 m):=(h.2 0 (by simp[GI])).2
theorem ql (n:Int) (r:O uA) (H:qj n=some r):bj Tryz.prog 121 [cI n] (·=cS r):=by
 obtain ⟨h,H⟩:=jm H;cases H
 refine bj.xI λae w vs hg ha=>?_
 obtain ⟨v,rfl,hv⟩:=ha.one
 rw[cX hv]
 refine (Tryz.strconv_Itoa n h.1 h.2 w (uZ hg)).mono ?_
 rintro e w' ⟨rfl,k,os,rfl⟩
 exact ⟨rfl,lX w k os⟩
theorem qm (xs:O (O uA)) (sep r:O uA) (H:qk xs sep=some r):bj Tryz.prog 122 [ya 1 rS xs,cS sep] (·=cS r):=by
 obtain ⟨h,H⟩:=jm H;cases H
 refine bj.xI λae w vs hg ha=>?_
 obtain ⟨v,u,rfl,hv,hu⟩:=ha.two
 rw[cX hu]
 rcases lY hv with ⟨A,c,rfl,rfl⟩|⟨b,off,c,rfl,hc,hb,bG⟩
 ·exact (Tryz.strings_Join_none A c ⟨sep.toArray⟩ w).mono λe w' ⟨he,hw⟩=>⟨he,hw▸Below.refl _ _⟩
 ·have hm:(xs.map λx=>(⟨x.toArray⟩:ByteArray)).map (·.data.toList)=xs:=by simp[Function.comp_def]
  have:=Tryz.strings_Join b off c (xs.map λx=>(⟨x.toArray⟩:ByteArray)) ⟨sep.toArray⟩ w (λj x hj=>by
   rw[zap] at hj
   obtain ⟨y,hy,rfl⟩:=zbk.1 hj
   exact bG j y hy) hb (by simp;omega) (by simpa using hc) (by rw[hm];simp;omega)
  rw[hm,zbx] at this
  exact this
theorem nR (s sub:O uA) (r:Int) (H:mQ s sub=some r):bj Tryz.prog 117 [cS s,cS sub] (·=cI r):=by
 obtain ⟨h,H⟩:=jm H;cases H
 refine bj.xI λae w vs hg ha=>?_
 obtain ⟨v,u,rfl,hv,hu⟩:=ha.two
 rw[cX hv,cX hu]
 obtain ⟨m,hm⟩:=u0 hg
 refine (Tryz.strings_Index ⟨s.toArray⟩ ⟨sub.toArray⟩ m w (by simp[ByteArray.size];omega) hm).mono ?_
 rintro e w' ⟨rfl,rfl⟩
 exact ⟨by simp,Below.refl _ _⟩
theorem nS (s sub:O uA) (r:Int) (H:jO s sub=some r):bj Tryz.prog 180 [cS s,cS sub] (·=cI r):=by
 unfold jO at H
 split at H
 ·rename_i c
  cases H
  refine bj.xI λae w vs hg ha=>?_
  obtain ⟨v,u,rfl,hv,hu⟩:=ha.two
  rw[cX hv,cX hu]
  refine (Tryz.strings_Count_one ⟨s.toArray⟩ c w).mono ?_
  rintro e w' ⟨rfl,rfl⟩
  exact ⟨by simp,Below.refl _ _⟩
 ·cases H
noncomputable def Bg:Nat->Option (List Go.CI.V->Go.CI.Tr Go.CI.Ob->(Go.CI.V->Go.CI.X Go.CI.S1)->Go.CI.X Go.CI.S1):=Go.CI.xH [(121,Go.CI.lU qj),(122,Go.CI.lW qk),(117,Go.CI.rU mQ),(180,Go.CI.rU jO)]
theorem u4:Go.CI.mG Tryz.prog Bg:=Go.CI.sX λx hx=>by
 rcases zbi.1 hx with rfl|hx
 ·exact Go.CI.qf ⟨Tryz.f121,Tryz.func121,by kernel_rfl,by kernel_rfl⟩ ql
 rcases zbi.1 hx with rfl|hx
 ·exact Go.CI.qg ⟨Tryz.f122,Tryz.func122,by kernel_rfl,by kernel_rfl⟩ qm
 rcases zbi.1 hx with rfl|hx
 ·exact Go.CI.qh ⟨Tryz.f117,Tryz.func117,by kernel_rfl,by kernel_rfl⟩ nR
 rcases zbi.1 hx with rfl|hx
 ·exact Go.CI.qh ⟨Tryz.f180,Tryz.func180,by kernel_rfl,by kernel_rfl⟩ nS
 cases hx
end Go.Proofs.YtmabakgaacegjaaGreatDoor
namespace Go.Abs
open Go.RowKit Go.ChangeShapes Go.WideShapes Go.Deep
inductive Sh where
 | i (k:IntKind)
 | b
 | s
 | sl (row:List Sh)
inductive cw:Sh->D->Prop where
 | i (k:IntKind) (n:Int) (h:(Lit.int k n).wf=true):cw (.i k) (.ex (.int k n))
 | b (x:Bool):cw .b (.ex (.bool x))
 | s (l:List uA) (h:l.length<=maxLen):cw .s (.ex (.string ⟨l.toArray⟩))
 | sl (row:List Sh) (rows:List (List D)) (hn:rows.length<=maxLen) (h1:∀ r,r∈rows->r.length=row.length)
   (h:∀ r,r∈rows->∀ (i:Nat) sh d,row[i]?=some sh->r[i]?=some d->cw sh d):cw (.sl row) (.sl row.length rows)
def ff (P:uF) (rec:uE->Option (List Sh)):List Field->Nat->Option (List Sh)
 | [],_=>some []
 | f::fs,off=>match rec f.type with
  | some r=>if Nat.beq f.offset off && Nat.beq r.length (P.cellsOf f.type) then (ff P rec fs (off+r.length)).map (r++·) else none
  | none=>none
def shape (P:uF):Nat->uE->Option (List Sh)
 | 0,_=>none
 | n+1,t=>match P.underlying t with
  | some (.int k)=>some [.i k]
  | some .bool=>some [.b]
  | some .string=>some [.s]
  | some (.slice e)=>match shape P n e with
   | some r=>if Nat.beq r.length (P.cellsOf e) && Nat.blt 0 r.length then some [.sl r] else none
   | none=>none
  | some (.struct fs)=>match ff P (shape P n) fs.toList 0 with
   | some r=>if Nat.beq r.length (P.cellsOf t) then some r else none
   | none=>none
  | _=>none
def dC (ae:Nat->Nat) (w:uC) (ia:List Sh) (cs:List uB):Prop :=
 ∃ ds:List D,ds.length=ia.length/\cs.length=ia.length/\∀ (i:Nat) sh d c,ia[i]?=some sh->ds[i]?=some d->cs[i]?=some c->cw sh d/\aJ ae w d c/\c.oneCell'=true
theorem dC.one {ae:Nat->Nat} {w:uC} {sh:Sh} {d:D} {c:uB} (h1:cw sh d) (h2:aJ ae w d c) (h3:c.oneCell'=true):dC ae w [sh] [c]:=by
 refine ⟨[d],rfl,rfl,λi BC d' c' ha hb hc=>?_⟩
 cases i with
 | zero=>simp at ha hb hc;subst ha;subst hb;subst hc;exact ⟨h1,h2,h3⟩
 | succ i=>simp at ha
theorem dC.nil {ae:Nat->Nat} {w:uC}:dC ae w [] []:=⟨[],rfl,rfl,λi _ _ _ h=>by simp at h⟩
theorem dC.append {ae:Nat->Nat} {w:uC} {s1 s2:O Sh} {c1 c2:O uB} (h:dC ae w s1 c1) (k:dC ae w s2 c2):dC ae w (s1++s2) (c1++c2):=by
 obtain ⟨d1,a1,b1,e1⟩:=h
 obtain ⟨d2,a2,b2,e2⟩:=k
 refine ⟨d1++d2,by simp[a1,a2],by simp[b1,b2],λi sh d c ha hb hc=>?_⟩
 by_cases hi:i<s1.length
 ·rw[zak hi] at ha
  rw[zak (by omega)] at hb hc
  exact e1 i sh d c ha hb hc
 ·rw[zav (by omega)] at ha hb hc
  rw[a1] at hb
  rw[b1] at hc
  exact e2 _ sh d c ha hb hc
section opening
variable {H:Type} {enc:uE×uB->H} {P:uF} {w:uC} {held:Bool} {ae:Nat->Nat}
theorem fg {rec:uE->J (O Sh)} (cs:O uB):∀ (fs:O Field) (off:Nat) (ia:O Sh),ff P rec fs off=some ia->cs.length=off+ia.length ->
  (∀ (i:Nat) f,fs[i]?=some f->∀ r,rec f.type=some r->r.length=P.cellsOf f.type->dC ae w r ((cs.drop f.offset).take (P.cellsOf f.type)))->dC ae w ia (cs.drop off)
 | [],off,ia,h,hl,_=>by
  simp[ff] at h;subst h
  rw[zcl (by simp at hl;omega)]
  exact .nil
 | f::fs,off,ia,h,hl,hf=>by
  unfold ff at h
  split at h
  ·rename_i r hr
   split at h
   ·rename_i hc
    rw[zaf] at hc
    replace hc:=And.intro (zae hc.1) (zae hc.2)
    obtain ⟨rest,w8,rfl⟩:=zbk.1 h
    simp only[zbb] at hl
    have h1:=hf 0 f rfl r hr hc.2
    have h2:=fg cs fs (off+r.length) rest w8 (by omega) λi g hg=>hf (i+1) g (by simpa using hg)
    have e:cs.drop off=(cs.drop f.offset).take (P.cellsOf f.type)++cs.drop (off+r.length):=by
     rw[hc.1,←hc.2,←List.drop_drop,List.take_append_drop]
    rw[e]
    exact h1.append h2
   ·cases h
  ·cases h
theorem dD (kX:∀ b off u,w.cell? ⟨b,off,none⟩=some u->off<ae b):∀ (n:Nat) (t:uE) (ia:O Sh),shape P n t=some ia->∀ fuel cs x,DataW.trod enc P w 0 (λ_=>true) held fuel t cs=some x->dC ae w ia cs
 | 0,_,_,h=>by simp[shape] at h
 | n+1,t,ia,h=>by
  intro fuel cs x ht
  unfold shape at h
  split at h
  ·rename_i k hu
   cases h
   obtain ⟨m,rfl,_,hw⟩:=DataW.trod_int hu ht
   exact .one (.i k m hw) (.ex _) rfl
  ·rename_i hu
   cases h
   obtain ⟨b,rfl,_⟩:=DataW.trod_bool hu ht
   exact .one (.b b) (.ex _) rfl
  ·rename_i hu
   cases h
   obtain ⟨⟨a⟩,rfl,_,hs⟩:=DataW.trod_string hu ht
   exact .one (.s a.toList (by simpa [ByteArray.size] using hs)) (.ex _) rfl
  ·rename_i e hu
   split at h
   ·rename_i r hr
    split at h
    ·rename_i hc
     cases h
     rw[zaf] at hc
     obtain ⟨rj,Bh⟩:=And.intro (zae hc.1) (bl hc.2)
     rcases open_slice hu ht with ⟨rfl,_⟩|⟨a,len,cap,m,n',D0,Pl,rfl,hb,hl,hm,xm,hx,hi⟩
     ·exact .one (.sl r [] (zba _) (λ_ h=>by cases h) (λ_ h=>by cases h)) (.nil _ _) rfl
     ·simp only[zcf] at xm
      subst xm
      obtain ⟨F,hF⟩:=choose_lt (n:=m) (p:=λi (ds:O D)=>ds.length=r.length/\∀ (j:Nat) sh d,r[j]?=some sh->ds[j]?=some d->∃ c,w.cell? (a.add (i*r.length+j))=some c/\cw sh d/\aJ ae w d c/\c.oneCell'=true) (λi fZ=>by
       obtain ⟨iL,h1,h2⟩:=hi i fZ
       obtain ⟨ds,k1,k2,k3⟩:=dD kX n e r hr n' iL _ h2
       obtain ⟨_,h3,h4⟩:=World.cells?_some h1
       refine ⟨ds,k1,λj sh d hj hd=>?_⟩
       have nh:j<r.length:=(zaa.1 hj).1
       have ij:iL[j]?=some (iL[j]'(by omega)):=zad (by omega)
       refine ⟨iL[j]'(by omega),?_,k3 j sh d _ hj hd ij⟩
       rw[←ij,←h4 j (by omega),←rj,Go.Deep.add_add])
      have td:cw (.sl r) (.sl r.length ((List.range len).map F)):=by
       refine .sl r _ (by simp;omega) (λrow bE=>?_) λrow bE i sh d hs hd=>?_
       ·obtain ⟨i,rX,rfl⟩:=zcs.1 bE
        exact (hF i (by have:=List.mem_range.1 rX;omega)).1
       ·obtain ⟨i',rX,rfl⟩:=zcs.1 bE
        obtain ⟨c,_,hh,_⟩:=(hF i' (by have:=List.mem_range.1 rX;omega)).2 i sh d hs hd
        exact hh
      refine .one td ?_ rfl
      rcases Nat.eq_zero_or_pos m with h0|h0
      ·subst h0
       have:len=0:=by omega
       subst this
       exact .nil _ _
      ·have sY:a.spot=none:=by
        obtain ⟨iL,h1,h2⟩:=hi 0 h0
        obtain ⟨_,h3,h4⟩:=World.cells?_some h1
        have h5:=h4 0 (by omega)
        have h6:iL[0]?=some (iL[0]'(by omega)):=zad (by omega)
        rw[h6] at h5
        unfold World.cell? at h5
        split at h5
        ·split at h5
         ·cases h5
         ·rename_i vy
          simpa [Addr.add] using vy
        ·cases h5
       obtain ⟨b,off,sp⟩:=a
       simp only at sY
       subst sY
       have bG:∀ i j,i<m->j<r.length->∀ sh d,r[j]?=some sh->(F i)[j]?=some d->∃ c,w.cell? ⟨b,off+(i*r.length+j),none⟩=some c/\cw sh d/\aJ ae w d c/\c.oneCell'=true:=λi j fZ hj sh d hs hd=>by
        obtain ⟨c,h1,h2⟩:=(hF i fZ).2 j sh d hs hd
        rw[Addr.add_lit] at h1
        exact ⟨c,h1,h2⟩
       have hlen:((List.range len).map F).length=len:=by simp
       have key:=aJ.sl (ae:=ae) (w:=w) r.length ((List.range len).map F) b off m (by rw[hlen];exact hl) (λrow bE=>by
        obtain ⟨i,rX,rfl⟩:=zcs.1 bE
        exact (hF i (by have:=List.mem_range.1 rX;omega)).1) (λk hk=>by
        rw[hlen] at hk
        have hdiv:k / r.length<len:=Nat.div_lt_of_lt_mul (by rw[Nat.mul_comm];exact hk)
        have k9:k % r.length<r.length:=Nat.mod_lt _ Bh
        obtain ⟨c,h1,h2,h3,h4⟩:=bG (k / r.length) (k % r.length) (by omega) k9 _ _ (zad k9) (zad (by rw[(hF _ (by omega)).1];exact k9))
        have e:k / r.length*r.length+k % r.length=k:=by rw[Nat.mul_comm];exact Nat.div_add_mod k r.length
        rw[e] at h1
        exact ⟨kX _ _ _ h1,c,h1,h4⟩) (λi j row c u h1 h2 h3=>by
        rw[zap] at h1
        obtain ⟨i',rX,rfl⟩:=zbk.1 h1
        have bK:i<len:=by have:=(zaa.1 rX).1;simpa using this
        have:i'=i:=by rw[List.getElem?_range bK] at rX;cases rX;rfl
        subst this
        have nh:j<r.length:=by have:=(zaa.1 h2).1;rw[(hF _ (by omega)).1] at this;exact this
        obtain ⟨c',k1,k2,k3,k4⟩:=bG i' j (by omega) nh _ _ (zad nh) h2
        rw[h3] at k1
        cases k1
        exact k3)
       rw[hlen] at key
       exact key
    ·cases h
   ·cases h
  ·rename_i fs hu
   split at h
   ·rename_i r hr
    split at h
    ·rename_i hc
     cases h
     have ij:=zae hc
     obtain ⟨ys,n',_,hy,hlen,xG,hf⟩:=DataW.trod_struct hu ht
     have:=fg (ae:=ae) (w:=w) (P:=P) cs fs.toList 0 _ hr (by omega) λi f hi r' Bi mX=>by
      have h1:=hf i f (by simpa using hi)
      have Bj:ys[i]?=some (ys[i]'(by have:=(zaa.1 hi).1;simp at this;omega)):=zad _
      exact dD kX n f.type r' Bi n' _ _ (h1.trans Bj)
     simpa using this
    ·cases h
   ·cases h
  ·cases h
end opening
end Go.Abs
namespace Go.Abs
open Go.RowKit Go.ChangeShapes Go.WideShapes Go.Deep Go.ChangeAt
def rY (w:uC) (b:Nat):Nat:=match w.heap[b]? with
 | some (.cells c _ _)=>c.size
 | _=>0
theorem rZ (w:uC) (b off:Nat) (u:uB) (h:w.cell? ⟨b,off,none⟩=some u):off<rY w b:=by
 unfold World.cell? at h
 unfold rY
 split at h
 ·rename_i c e k hb
  simp only at hb
  rw[hb]
  simp only[Option.isSome_none,zal,zcp] at h
  exact (zaz.1 h).1
 ·cases h
theorem cw.sZ {d:D} (h:cw (.i .i64) d):∃ n:Int,d=.ex (.int .i64 n)/\-9223372036854775808<=n/\n<=9223372036854775807:=by
 cases h with
 | i _ n hw=>simp only[Lit.wf,zaf,zbm] at hw;exact ⟨n,rfl,hw⟩
section
variable {H:Type} {enc:uE×uB->H} {P:uF}
theorem ix {f:Func} {s:ChangeSpec} {apart fresh handsOn again:Bool} {W W':uC} {args:uD uB} {v:uB} {ds gs:O (DataW H)} {before pa pv:O MemPlace}
  (hW:DataW.Whole enc P f.params.toList s.vars apart W args.toList ds gs before)
  (lh:∀ (b:Nat) (sp:Nat->Bool) (hd:Bool),DataW.TrodAll enc P W' b sp hd f.resultTypes.toList (v.resultList f.resultTypes.size) (s.fn H (ds++gs)).results [])
  (kC:∀ sp:Nat->Bool,(∀ p∈before,sp p.block=true)->DataW.TrodAll enc P W' 0 sp true f.params.toList args.toList (s.fn H (ds++gs)).args pa)
  (s4:∀ sp:Nat->Bool,(∀ p∈before,sp p.block=true)->DataW.TrodVars enc P W' sp s.vars (s.fn H (ds++gs)).vars pv)
  (sO:before=pa++pv) (hb:Below W.heap.size W W')
  (iE:∀ (j:Nat) (t:uE) (r:uB),f.resultTypes[j]?=some t->(v.resultList f.resultTypes.size)[j]?=some r->Value.okWide P W' .any 0 t r) :
  s.post enc P f apart fresh handsOn again W args v W':=by
 have aG:∀ p∈before,p.block<W.heap.size:=λp hp=>hW.lt p hp
 have hold:∀ p∈before,(λb=>decide (b<W.heap.size)) p.block=true:=λp hp=>by simpa using aG p hp
 refine ⟨ds,gs,before,[],pa,pv,hW,lh _ _ _,kC _ hold,s4 _ hold,World.keptBut_mono (λp hp=>⟨hp,?_⟩) (hb.frame (·∈before)),λ_=>?_⟩
 ·rw[sO,zbq] at hp
  exact Or.inr hp
 ·obtain ⟨_,_,_,_,_,hz,hn⟩:=hW
  refine ⟨iE,_,_,([]++pa)++pv,⟨[]++pa,pv,trodAll_append (kC _ (λ_ _=>rfl)) (lh _ _ _),s4 _ (λ_ _=>rfl),rfl,?_,?_⟩,?_⟩
  ·intro b off hp
   have sn:MemPlace.cell b off∈before:=by rw[sO];simpa using hp
   rw[hb.frozen (aG _ sn)]
   exact hz b off sn
  ·intro ha
   have:=hn ha
   rw[sO] at this
   simpa using this
  ·intro p hp _
   rw[sO]
   simpa using hp
end
theorem ec {H:Type} {enc:uE×uB->H} {P:uF} (hl:laidOutB P=true) {W W':uC} (hb:Below W.heap.size W W') (sp:Nat->Bool):∀ {ts:O uE} {vs:O uB} {ds:O (DataW H)} {ps:O MemPlace},
  (ts.all λt=>P.readableRec t && decide (t<P.types.size))=true->DataW.TrodAll enc P W 0 (λ_=>true) true ts vs ds ps->(∀ x∈ps,x.block<W.heap.size)->(∀ x∈ps,sp x.block=true)->DataW.TrodAll enc P W' 0 sp true ts vs ds ps
 | [],[],[],_,_,h,_,_=>h
 | t::ts,v::vs,d::ds,ps,hr,h,aG,vy=>by
  obtain ⟨p,q,h1,h2,rfl⟩:=h
  simp only[List.all_cons,zaf,zbm] at hr
  refine ⟨p,q,?_,?_,rfl⟩
  ·exact WideElems.Trod_stays hl hr.1.1 hr.1.2 h1 (λx hx=>hb.same (aG x (List.mem_append_left _ hx))) (λx hx=>vy x (List.mem_append_left _ hx))
  ·exact ec hl hb sp (by simpa using hr.2) h2 (λx hx=>aG x (List.mem_append_right _ hx)) (λx hx=>vy x (List.mem_append_right _ hx))
section top
variable {H:Type} {enc:uE×uB->H} {P:uF} {w:uC} {held:Bool} {r:Reach} {b0:Nat} {t:uE} {v:uB} {d:DataW H} {ps:List MemPlace}
theorem sa {n:Nat} {ia:O Sh} {fs:uD Field} (hs:shape P n t=some ia) (ht:P.underlying t=some (.struct fs)) (hv:Value.okWide P w r b0 t v) (h:DataW.Trod enc P w 0 (λ_=>true) held t v d ps) :
  ∃ x:O D,x.length=ia.length/\(∀ (i:Nat) sh d,ia[i]?=some sh->x[i]?=some d->cw sh d)/\aJ (rY w) w (.agg x) v:=by
 obtain ⟨cs,rfl,_⟩:=okWide_struct ht hv
 obtain ⟨fuel,hf⟩:=h
 obtain ⟨ds,h1,h2,h3⟩:=dD (rZ w) n t _ hs fuel _ _ hf
 have qE:cs.size=ia.length:=by simpa [Value.cells] using h2
 refine ⟨ds,h1,λi sh d hi hd=>?_,.agg ds cs (by omega) (λi u hu=>?_) λi c u hc hu=>?_⟩
 ·have bK:i<cs.size:=by have:=(zaa.1 hi).1;omega
  exact (h3 i sh d cs[i] hi hd (by simp[Value.cells,bK])).1
 ·have bK:i<ia.length:=by have:=(zaz.1 hu).1;omega
  exact (h3 i ia[i] (ds[i]'(by omega)) u (zad bK) (zad (by omega)) (by simpa [Value.cells] using hu)).2.2
 ·have bK:i<ia.length:=by have:=(zaz.1 hu).1;omega
  exact (h3 i ia[i] c u (zad bK) hc (by simpa [Value.cells] using hu)).2.1
end top
end Go.Abs
