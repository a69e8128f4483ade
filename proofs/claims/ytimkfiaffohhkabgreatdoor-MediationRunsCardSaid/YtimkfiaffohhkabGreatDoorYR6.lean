/- Own. -/
import Derived.Test.YtimkfiaffohhkabGreatDoorYR5
import Derived.Deep.Slices
import Derived.ChangeArms
import Derived.ProofKit
import Derived.Below
import Derived.ChangeSame
set_option linter.unusedSimpArgs false
set_option linter.unusedVariables false
set_option linter.unusedSectionVars false
set_option maxRecDepth 100000
set_option maxHeartbeats 1000000
namespace Go.Proofs.YtimkfiaffohhkabGreatDoor
open Go.RowKit Go.Abs
abbrev ua (b:Bk):O Int:=b.bp.map (·.id)
structure xC (n:Nat) (w:W7) (b:Bk):Prop where
 wb:WB n w
 bb:BB n b
 ids:(ua b).Nodup
 asc:w.2.1.Pairwise (· < ·)
 mem:∀ k,k∈w.2.1↔k∈ua b
 ev:∀ k,(aC w.2.2.2.2.1 k).getD false=true↔k∈ua b
 look:∀ s,s∈b.bp->aC w.2.2.2.1 s.id=if s.id∈b.ended then none else some s
 keys:∀ k,k ∉ ua b->aC w.2.2.2.1 k=none
 rng:∀ k,k∈ua b->1<=k/\k<=9999
 UB:b.ended.Nodup
 R0:∀ k,k∈b.ended->k∈ua b
 num:∀ s s' x,s∈b.bp->s'∈b.bp->x∈s.numbers->x∈s'.numbers->s.id=s'.id
 ne:∀ s,s∈b.bp->[] ∉ s.numbers
 acc:∀ s,s∈b.bp->1<=s.az/\s.az<=9999
theorem inv0:xC 0 w0 b0:=⟨wb0,bb0,by simp [ua,b0],by simp [w0],λk=>by simp [w0,b0],λk=>by simp [w0,b0,aC],λs h=>by simp [b0] at h,λk _=>by simp [w0,aC],λk h=>by simp [b0] at h,by simp [b0],λk h=>by simp [b0] at h,λs s' x h=>by simp [b0] at h,λs h=>by simp [b0] at h,λs h=>by simp [b0] at h⟩
theorem QI (f:Sub->Int) (y:Sub):∀ (l:O Sub) (i:Nat),i<l.length->f y=f (nth l i)->(l.set i y).map f=l.map f
 | [],i,h,_=>by simp at h
 | a::l,0,_,h=>by rw[fX] at h;simp [h]
 | a::l,i+1,h,hy=>by
  rw[fx] at hy;rw[List.set_cons_succ,zao,zao,QI f y l i (by rw[zad] at h;omega) hy]
theorem QJ (y:Sub):∀ (l:O Sub) (i:Nat),i<l.length->(l.map (·.id)).Nodup->y.id=(nth l i).id->∀ s,s∈l.set i y->s=y∨(s∈l/\s.id≠y.id)
 | [],i,h,_,_,_,_=>by simp at h
 | a::l,0,_,hn,h,s,hs=>by
  rw[fX] at h;rw[List.set_cons_zero,zan] at hs;rw[zao,zcb] at hn;rcases hs with hs|hs
  ·exact .inl hs
  ·exact .inr ⟨zai _ hs,λe=>hn.1 (by rw[←h,←e];exact zcd hs)⟩
 | a::l,i+1,h,hn,hy,s,hs=>by
  rw[fx] at hy;rw[zad] at h;rw[List.set_cons_succ,zan] at hs;rw[zao,zcb] at hn;rcases hs with rfl|hs
  ·exact .inr ⟨zaj ..,λe=>hn.1 (by rw[e,hy];exact zcd (kB (by omega)))⟩
  ·rcases QJ y l i (by omega) hn.2 hy s hs with h1|⟨h1,h2⟩
   ·exact .inl h1
   ·exact .inr ⟨zai _ h1,h2⟩
theorem chF_id (s:Sub) (e:Event):(QA s e).id=s.id:=by
 unfold QA;repeat' split
 all_goals rfl
theorem chB_id (s:Sub) (e:Event):(LD s e).id=s.id:=by
 unfold LD;split
 ·rfl
 ·exact chF_id s e
theorem WK (s:Sub) (e:Event):(LD s e).az=s.az:=by
 unfold LD QA;repeat' split
 all_goals rfl
theorem WL (x z:O uA) (l:O (O uA)) (h:z∈I0 x l):z∈l:=(zcq.1 h).1
theorem H6 (s:Sub) (e:Event):∀ x,x∈(LD s e).numbers->(e.kind=5/\x=e.number)∨x∈s.numbers:=λx hx=>by
 unfold LD QA at hx
 repeat' split at hx
 all_goals first|(simp at hx;done)|exact .inr hx|skip
 ·rename_i k5;rcases (Gb _ _ _ _).1 hx with h|h
  ·exact .inl ⟨k5,h⟩
  ·exact .inr h
 ·exact .inr (WL _ _ _ hx)
theorem AJ (b:Bk) (k:Int):(mH b k=-1/\k ∉ ua b)∨(0<=mH b k/\mH b k<(b.bp.length:Int)/\(nth b.bp (mH b k).toNat).id=k):=by
 rcases uY (λa:Sub=>a.id==k) b.bp 0 (by omega) with ⟨q,h⟩|⟨q1,q2,q3⟩
 ·refine .inl ⟨q,λhm=>?_⟩;obtain ⟨s,h1,h2⟩:=zcy.1 hm;have:=h s h1;simp [h2] at this
 ·refine .inr ⟨q1,by unfold mH;omega,?_⟩;rw[show (vM (λa:Sub=>a.id==k) b.bp 0-0).toNat=(mH b k).toNat from by unfold mH;omega] at q3;simpa using q3
theorem QK (x:Int):∀ (l:O Int),l.Pairwise (· < ·)->x ∉ l->(xB IZ x l).Pairwise (· < ·)
 | [],_,_=>by simp [xB]
 | y::t,h,hx=>by
  rw[zav] at h;rw[zan,not_or] at hx;unfold xB;by_cases hy:IZ y x=true
  ·rw[zab hy,zav];refine ⟨λz hz=>?_,QK x t h.2 hx.2⟩;rcases (Gb _ _ _ _).1 hz with rfl|hz
   ·simpa [IZ] using hy
   ·exact h.1 z hz
  ·rw[zaa hy,zav,zav];have cT:x<y:=by simp [IZ] at hy;omega
   refine ⟨λz hz=>?_,h⟩;rcases zan.1 hz with rfl|hz
   ·exact cT
   ·have:=h.1 z hz;omega
theorem xC.up {n:Nat} {w:W7} {b:Bk} (h:xC n w b):xC (n+1) w b:={ h with wb:=h.wb.up,bb:=h.bb.up }
theorem xC.find {n:Nat} {w:W7} {b:Bk} (h:xC n w b) {s s':Sub} (hs:s∈b.bp) (wS:s'∈b.bp) (e:s.id=s'.id):s=s':=by
 have key:∀ (l:O Sub),(l.map (·.id)).Nodup->s∈l->s'∈l->s=s':=by
  intro l
  induction l with
  | nil=>intro _ h;simp at h
  | cons a l ih =>
   intro hn h1 h2;rw[zao,zcb] at hn;rcases zan.1 h1 with h3|h3
   ·rcases zan.1 h2 with h4|h4
    ·rw[h3,h4]
    ·exact absurd (by rw[←h3,e];exact zcd h4) hn.1
   ·rcases zan.1 h2 with h4|h4
    ·exact absurd (by rw[←h4,←e];exact zcd h3) hn.1
    ·exact ih hn.2 h3 h4
 exact key _ h.ids hs wS
theorem UC (n:Nat) (w:W7) (b:Bk) (e:Event) (last:Int) (h:xC n w b) (hn:n<=10000) (f:Gd b e last):∃ w' b',apO e w=some w'/\iT b e=some b'/\xC (n+1) w' b':=by
 obtain ⟨w',e1,hw,ea,es,ee⟩:=Lg n e w h.wb hn;obtain ⟨b',e2,hb,bs,be⟩:=Lk b e last n h.bb hn f;refine ⟨w',b',e1,e2,?_⟩;by_cases k0:e.kind=1∨e.kind=2∨e.kind=14∨e.kind=15
 ·have n3:¬e.kind=3:=by omega
  have n4:¬e.kind=4:=by omega
  unfold Uv at ea;rw[zaa (λk=>n3 k.1)] at ea;unfold RX at es;rw[zaa n3,zaa n4,zab k0] at es;unfold evF at ee;rw[zaa n3] at ee;unfold Uy at bs;rw[zaa n3,zab k0] at bs;unfold RZ at be;rw[zaa n4] at be;have hi:ua b'=ua b:=by unfold ua;rw[bs]
  exact ⟨hw,hb,by rw[hi];exact h.ids,by rw[ea];exact h.asc,by rw[ea,hi];exact h.mem,by rw[ee,hi];exact h.ev,by rw[es,bs,be];exact h.look,by rw[es,hi];exact h.keys,by rw[hi];exact h.rng,by rw[be];exact h.UB,by rw[be,hi];exact h.R0,by rw[bs];exact h.num,by rw[bs];exact h.ne,by rw[bs];exact h.acc⟩
 by_cases k3:e.kind=3
 ·have n4:¬e.kind=4:=by omega
  have Ww:=f.add k3;have hni:e.sub ∉ ua b:=by
   rcases AJ b e.sub with ⟨_,q⟩|⟨q,_⟩
   ·exact q
   ·omega
  have hr:=f.form.sub k0;have Sv:(aC w.2.2.2.2.1 e.sub).getD false=false:=by
   cases hh:(aC w.2.2.2.2.1 e.sub).getD false with
   | false=>rfl
   | true=>exact absurd ((h.ev _).1 hh) hni
  unfold Uv at ea;rw[zab ⟨k3,Sv⟩] at ea;unfold RX at es;rw[zab k3] at es;unfold evF at ee;rw[zab k3] at ee;unfold Uy at bs;rw[zab k3] at bs;unfold RZ at be;rw[zaa n4] at be;have hi:ua b'=ua b++[e.sub]:=by unfold ua;rw[bs,zce];rfl
  have fK:e.sub ∉ b.ended:=λk=>hni (h.R0 _ k)
  refine ⟨hw,hb,?_,?_,?_,?_,?_,?_,?_,?_,?_,?_,?_,?_⟩
  ·rw[hi,zdl];exact ⟨h.ids,by simp,λa ha c hc=>by rw[zcc.1 hc];exact λq=>hni (q▸ha)⟩
  ·rw[ea];exact QK _ _ h.asc (λk=>hni ((h.mem _).1 k))
  ·intro k;rw[ea,Gb,hi,zbc,zcc,h.mem k];exact Or.comm
  ·intro k;rw[ee,dV,hi,zbc,zcc];by_cases hk:k=e.sub
   ·simp [hk]
   ·rw[zaa (by simpa using hk),h.ev k];simp [hk]
  ·intro s hs;rw[bs,zbc,zcc] at hs;rw[es,be,dV];rcases hs with hs|rfl
   ·have:s.id≠e.sub:=λq=>hni (by rw[←q];exact zcd hs);rw[zaa (by simpa using this)];exact h.look s hs
   ·rw[zab (by simp [Ci]),zaa (by simpa [Ci] using fK)]
  ·intro k hk;rw[hi,zbc,zcc,not_or] at hk;rw[es,dV,zaa (by simpa using hk.2)];exact h.keys k hk.1
  ·intro k hk;rw[hi,zbc,zcc] at hk;rcases hk with hk|rfl
   ·exact h.rng k hk
   ·exact hr
  ·rw[be];exact h.UB
  ·intro k hk;rw[be] at hk;rw[hi,zbc];exact .inl (h.R0 k hk)
  ·intro s s' x hs wS hx lO;rw[bs,zbc,zcc] at hs wS;rcases hs with hs|rfl
   ·rcases wS with wS|rfl
    ·exact h.num s s' x hs wS hx lO
    ·simp [Ci] at lO
   ·simp [Ci] at hx
  ·intro s hs;rw[bs,zbc,zcc] at hs;rcases hs with hs|rfl
   ·exact h.ne s hs
   ·simp [Ci]
  ·intro s hs;rw[bs,zbc,zcc] at hs;rcases hs with hs|rfl
   ·exact h.acc s hs
   ·exact f.form.acct k3
 obtain ⟨⟨s0,s1⟩,fK,h5⟩:=f.sub (by omega);have hid:(nth b.bp (mH b e.sub).toNat).id=e.sub:=by
  rcases AJ b e.sub with ⟨q,_⟩|⟨_,_,q⟩
  ·omega
  ·exact q
 have XD:nth b.bp (mH b e.sub).toNat∈b.bp:=kB (by omega);have cT:(mH b e.sub).toNat<b.bp.length:=by omega
 generalize ia:(mH b e.sub).toNat=i at hid XD cT;generalize N7:nth b.bp i=s at hid XD;unfold Uv at ea;rw[zaa (λk=>k3 k.1)] at ea;unfold evF at ee;rw[zaa k3] at ee;unfold Uy at bs;rw[zaa k3,zaa k0,ia,N7] at bs;have rR:(LD s e).id=s.id:=chB_id s e;have hi:ua b'=ua b:=by unfold ua;rw[bs];exact QI _ _ _ _ cT (by rw[N7];exact rR)
 have qY:∀ z,z∈b'.bp->z=LD s e∨(z∈b.bp/\z.id≠e.sub):=λz hz=>by
  rw[bs] at hz;have:=QJ _ _ _ cT h.ids (by rw[N7];exact rR) z hz
  rwa [rR,hid] at this
 have hnn:∀ z z' x,z∈b'.bp->z'∈b'.bp->x∈z.numbers->x∈z'.numbers->z.id=z'.id:=λz z' x hz BK hx lO=>by
  rcases qY z hz with rfl|⟨hz,hzi⟩
  ·rcases qY z' BK with rfl|⟨BK,hzi'⟩
   ·rfl
   ·rcases H6 s e x hx with ⟨k5,rfl⟩|hx
    ·exact absurd lO (h5 k5 z' BK)
    ·rw[rR];exact h.num s z' x XD BK hx lO
  ·rcases qY z' BK with rfl|⟨BK,hzi'⟩
   ·rcases H6 s e x lO with ⟨k5,rfl⟩|lO
    ·exact absurd hx (h5 k5 z hz)
    ·rw[rR];exact h.num z s x hz XD hx lO
   ·exact h.num z z' x hz BK hx lO
 have qT:∀ z,z∈b'.bp->[] ∉ z.numbers:=λz hz hx=>by
  rcases qY z hz with rfl|⟨hz,_⟩
  ·rcases H6 s e [] hx with ⟨k5,hx⟩|hx
   ·exact f.form.num k5 hx.symm
   ·exact h.ne s XD hx
  ·exact h.ne z hz hx
 have XE:∀ z,z∈b'.bp->1<=z.az/\z.az<=9999:=λz hz=>by
  rcases qY z hz with rfl|⟨hz,_⟩
  ·rw[WK];exact h.acc s XD
  ·exact h.acc z hz
 have IY:e.sub∈ua b:=by rw[←hid];exact zcd XD
 by_cases k4:e.kind=4
 ·unfold RX at es;rw[zaa k3,zab k4] at es;unfold RZ at be;rw[zab k4] at be;refine ⟨hw,hb,by rw[hi];exact h.ids,by rw[ea];exact h.asc,by rw[ea,hi];exact h.mem,by rw[ee,hi];exact h.ev,?_,?_,by rw[hi];exact h.rng,?_,?_,hnn,qT,XE⟩
  ·intro z hz;rw[es,be,uP _ _ h.wb.keys];rcases qY z hz with rfl|⟨hz,hzi⟩
   ·rw[rR,hid,zab (by simp),zab (by simp)]
   ·rw[zaa (by simpa using hzi),h.look z hz];simp [hzi]
  ·intro k hk;rw[hi] at hk;rw[es,uP _ _ h.wb.keys];split
   ·rfl
   ·exact h.keys k hk
  ·rw[be,zdl];exact ⟨h.UB,by simp,λa ha c hc=>by rw[zcc.1 hc];exact λq=>fK (q▸ha)⟩
  ·intro k hk;rw[be,zbc,zcc] at hk;rw[hi];rcases hk with hk|rfl
   ·exact h.R0 k hk
   ·exact IY
 ·unfold RX at es;rw[zaa k3,zaa k4,zaa k0] at es;unfold RZ at be;rw[zaa k4] at be;have hl:=h.look s XD;rw[hid,zaa fK] at hl;rw[hl] at es;simp only at es;have Lw:LD s e=QA s e:=by unfold LD;rw[zaa k4]
  refine ⟨hw,hb,by rw[hi];exact h.ids,by rw[ea];exact h.asc,by rw[ea,hi];exact h.mem,by rw[ee,hi];exact h.ev,?_,?_,by rw[hi];exact h.rng,by rw[be];exact h.UB,by rw[be,hi];exact h.R0,hnn,qT,XE⟩
  ·intro z hz;rw[es,be,dV];rcases qY z hz with rfl|⟨hz,hzi⟩
   ·rw[rR,hid,zab (by simp),zaa fK,Lw]
   ·rw[zaa (by simpa using hzi)];exact h.look z hz
  ·intro k hk;rw[hi] at hk;have:k≠e.sub:=λq=>hk (q▸IY)
   rw[es,dV,zaa (by simpa using this)];exact h.keys k hk
def Oe (t:Int):List Event->Bk->Option Bk
 | [],b=>some b
 | e::l,b=>if e.at_<=t then (iT b e).bind (Oe t l) else Oe t l b
theorem NO:∀ (l:O Event) (b:Bk) (last:Int),VC b last l->∀ e,e∈l->last<=e.at_
 | [],_,_,_,e,h=>by simp at h
 | a::l,b,last,h,e,he=>by
  obtain ⟨f,b',_,hv⟩:=h;have h1:=f.form.at_;rcases zan.1 he with rfl|he
  ·exact h1
  ·have:=NO l b' a.at_ hv e he;omega
theorem NP (t:Int) (w:W7) (b:Bk):∀ (l:O Event),(∀ e,e∈l->t<e.at_)->NJ t l w=some w/\Oe t l b=some b
 | [],_=>⟨rfl,rfl⟩
 | e::l,h=>by
  have he:=h e (zaj ..);rw[NJ,zaa (by omega),Oe,zaa (by omega)];exact NP t w b l λz hz=>h z (zai _ hz)
theorem UD {n m:Nat} {w:W7} {b:Bk} (h:xC n w b) (hm:n<=m):xC m w b:=by
 induction m with
 | zero=>rwa [show n=0 from by omega] at h
 | succ m ih =>
  by_cases e:n=m+1
  ·rwa [e] at h
  ·exact (ih (by omega)).up
theorem QL (t:Int):∀ (l:O Event) (n:Nat) (w:W7) (b:Bk) (last:Int),xC n w b->n+l.length<=10000->VC b last l->∃ w' b',NJ t l w=some w'/\Oe t l b=some b'/\xC (n+l.length) w' b'
 | [],n,w,b,_,h,_,_=>⟨w,b,rfl,rfl,h⟩
 | e::l,n,w,b,last,h,hn,hv=>by
  have Ox:=hv;obtain ⟨f,b1,Gq,hv⟩:=hv;rw[zad] at hn ⊢;by_cases ht:e.at_<=t
  ·obtain ⟨w',b',e1,e2,hi⟩:=UC n w b e last h (by omega) f;rw[Gq] at e2;cases e2;obtain ⟨w2,b2,q1,q2,q3⟩:=QL t l (n+1) w' b1 e.at_ hi (by omega) hv;refine ⟨w2,b2,?_,?_,?_⟩
   ·rw[NJ,zab ht,e1];exact q1
   ·rw[Oe,zab ht,Gq];exact q2
   ·rw[show n+(l.length+1)=n+1+l.length from by omega];exact q3
  ·have hs:∀ z,z∈e::l->t<z.at_:=λz hz=>by
    rcases zan.1 hz with rfl|hz
    ·omega
    ·have:=NO l b1 e.at_ hv z hz;omega
   obtain ⟨q1,q2⟩:=NP t w b _ hs;exact ⟨w,b,q1,q2,UD h (by omega)⟩
theorem UE (bS:O Event) (t:Int) (b:Bk) (hl:bS.length<=10000) (h:Oe t bS b0=some b):sy bS t=some b:=by
 unfold sy;rw[←h];refine bm (step:=λs:Int×O aq×O Sub×O Int=>qh bS t s.1 s.2.1 s.2.2.1 s.2.2.2) bS (λs=>s.1) (λs r=>Oe t r ⟨s.2.1,s.2.2.1,s.2.2.2⟩) (λs r=>0<=s.1/\Oe t r ⟨s.2.1,s.2.2.1,s.2.2.2⟩=some b) (by omega) ?_ ?_ (s:=(0,[],[],[])) rfl ⟨by simp,h⟩
 ·rintro ⟨i,a,s,en⟩ ⟨h1,_⟩ h2;simp only at h1 h2;refine ⟨_,?_,rfl⟩;unfold qh;rw[zaa (by simp only[zak];omega)]
 ·rintro ⟨i,a,s,en⟩ e r ⟨h1,h2⟩ h3 h4 h5 h6;simp only at h1 h2 h3 h4 h5 h6;unfold qh;simp only;rw[zab (by simpa using h4),af ⟨h3,h4⟩,h5];rw[Oe] at h2 ⊢;by_cases ha:e.at_<=t
  ·rw[zab ha] at h2 ⊢;rw[zab (by simpa using ha),af ⟨h3,h4⟩];cases hb:iT ⟨a,s,en⟩ e with
   | none=>rw[hb] at h2;cases h2
   | some b' =>
    rw[hb] at h2;rw[zac,af ⟨by omega,by omega⟩];exact .inr ⟨(i+1,b'.aO,b'.bp,b'.ended),rfl,⟨by simp only;omega,h2⟩,rfl,rfl⟩
  ·rw[zaa ha] at h2 ⊢;rw[zaa (by simpa using ha),af ⟨by omega,by omega⟩];exact .inr ⟨(i+1,a,s,en),rfl,⟨by simp only;omega,h2⟩,rfl,rfl⟩
theorem JO:∀ (l m:O Int),l.Nodup->(∀ k,k∈l->k∈m)->l.length<=m.length
 | [],m,_,_=>by simp
 | a::l,m,hn,h=>by
  rw[zcb] at hn;have ha:=h a (zaj ..);have:=JO l (m.erase a) hn.2 (λk hk=>(List.mem_erase_of_ne (λq=>hn.1 (by rw[←q];exact hk))).2 (h k (zai _ hk)));rw[List.length_erase_of_mem ha] at this;have:=List.length_pos_of_mem ha;rw[zad];omega
section state
variable {n:Nat} {w:W7} {b:Bk}
theorem xC.QM (h:xC n w b) {k:Int} {s:Sub} (hs:aC w.2.2.2.1 k=some s):s∈b.bp/\s.id=k/\k ∉ b.ended:=by
 by_cases hk:k∈ua b
 ·obtain ⟨z,h1,h2⟩:=zcy.1 hk;have:=h.look z h1;rw[h2,hs] at this;split at this
  ·cases this
  ·cases this;exact ⟨h1,h2,by assumption⟩
 ·rw[h.keys k hk] at hs;cases hs
theorem xC.R1 (h:xC n w b) {k:Int} (hk:k∈ua b) (he:k ∉ b.ended):∃ s,aC w.2.2.2.1 k=some s/\s∈b.bp/\s.id=k:=by
 obtain ⟨z,h1,h2⟩:=zcy.1 hk;have:=h.look z h1;rw[h2,zaa he] at this;exact ⟨z,this,h1,h2⟩
theorem xC.JP (h:xC n w b) {k:Int} (he:k∈b.ended):aC w.2.2.2.1 k=none:=by
 cases hs:aC w.2.2.2.1 k with
 | none=>rfl
 | some s=>exact absurd he (h.QM hs).2.2
theorem xC.NQ (h:xC n w b):∀ (l:O Int),(∀ k,k∈l->k∈ua b)->(l.filterMap (aC w.2.2.2.1)).map (·.id)=l.filter λk=>decide (k ∉ b.ended)
 | [],_=>rfl
 | k::l,hl=>by
  have ih:=xC.NQ h l λz hz=>hl z (zai _ hz)
  by_cases he:k∈b.ended
  ·rw[zef,h.JP he,zbk,zaa (by simpa using he)];exact ih
  ·obtain ⟨s,h1,_,h3⟩:=h.R1 (hl k (zaj ..)) he;rw[zef,h1,zbk,zab (by simpa using he),zao,ih,h3]
theorem xC.Ll (h:xC n w b):(kr w).map (·.id)=w.2.1.filter λk=>decide (k ∉ b.ended):=h.NQ _ λk hk=>(h.mem k).1 hk
theorem xC.addN (h:xC n w b):w.2.1.Nodup:=h.asc.imp λh=>by omega
theorem xC.XF (h:xC n w b):((kr w).map (·.id)).Nodup:=by rw[h.Ll];exact List.Pairwise.filter _ h.addN
theorem xC.Ab (h:xC n w b) {s:Sub} (hs:s∈kr w):s∈b.bp/\s.id ∉ b.ended:=by
 obtain ⟨k,_,hk⟩:=List.mem_filterMap.1 hs;obtain ⟨h1,h2,h3⟩:=h.QM hk;exact ⟨h1,by rw[h2];exact h3⟩
theorem xC.count (h:xC n w b):(kr w).length+b.ended.length<=b.bp.length:=by
 have:=JO ((kr w).map (·.id)++b.ended) (ua b) (by
  rw[zdl];refine ⟨h.XF,h.UB,λa ha c hc=>?_⟩;rw[h.Ll,zcq] at ha;intro q;have:=ha.2;simp at this;exact this (q▸hc)) (λk hk=>by
  rcases zbc.1 hk with hk|hk
  ·rw[h.Ll,zcq] at hk;exact (h.mem k).1 hk.1
  ·exact h.R0 k hk)
 simpa [ua] using this
theorem filter_lt:∀ (l:O Int) (k:Int),l.Pairwise (· < ·)->l.filter (λz=>decide (z<k+1))=l.filter (λz=>decide (z<k))++if k∈l then [k] else []
 | [],k,_=>rfl
 | a::l,k,h=>by
  rw[zav] at h;have ih:=filter_lt l k h.2;by_cases h1:a<k
  ·rw[zbk,zab (by simp;omega),zbk,zab (by simp;omega),ih,List.cons_append];have:(k∈a::l)=(k∈l):=by simp;intro q;omega
   simp only[this]
  ·have hz:∀ z,z∈l->¬z<k:=λz hz=>by have:=h.1 z hz;omega
   have e1:l.filter (λz=>decide (z<k))=[]:=zcx.2 λz BK=>by simpa using hz z BK
   by_cases h2:a=k
   ·have e2:l.filter (λz=>decide (z<k+1))=[]:=zcx.2 λz BK=>by have:=h.1 z BK;simp;omega
    rw[zbk,zab (by simp;omega),zbk,zaa (by simp;omega),e1,e2,h2,zab (zaj ..)];rfl
   ·have hk:k ∉ l:=λq=>hz k q (by have:=h.1 k q;omega);rw[zbk,zaa (by simp;omega),zbk,zaa (by simp;omega),ih];have:k ∉ a::l:=by simp;exact ⟨λq=>h2 q.symm,hk⟩
    rw[zaa hk,zaa this]
theorem p_accs (b:Bk) (L:O Sub) (h1:b.aO.length<=100000) (h2:L.length<=100000):∃ a,mB b L=some ⟨a,L⟩:=by
 unfold mB;have:=uT (step:=λs:Int×O aq=>rC b L s.1 s.2) (λc=>c.bp=L) (λs=>1<=s.1/\s.1<=10000/\s.2.length<=100000) (λs=>(10000-s.1).toNat) ?_ (s:=(1,[])) ⟨by omega,by omega,by simp⟩ (by omega)
 ·obtain ⟨c,hc,e⟩:=this;exact ⟨c.aO,by rw[hc,←e]⟩
 rintro ⟨k,a⟩ ⟨k1,k2,k3⟩;simp only at k1 k2 k3;unfold rC;by_cases c:k<=9999/\(a.length:Int)<(b.aO.length:Int)
 ·rw[zab (by simpa using c),EG b k (by omega),zac];split
  ·rw[af ⟨by omega,by omega⟩];exact .inr ⟨(k+1,a),rfl,⟨by simp only;omega,by simp only;omega,k3⟩,by simp only;omega⟩
  ·rename_i hn;have sp:0<=vM (λa:aq=>a.id==k) b.aO 0/\vM (λa:aq=>a.id==k) b.aO 0<(b.aO.length:Int):=by
    simp at hn;rcases uY (λa:aq=>a.id==k) b.aO 0 (by omega) with ⟨q,_⟩|⟨q1,q2,_⟩
    ·omega
    ·omega
   rw[af sp];generalize vM (λa:aq=>a.id==k) b.aO 0=y;have:=uT (step:=λs:Int×O Int=>rB b L k a y s.1 s.2) (λr=>∃ x,r=.inl (k+1,a++[x])) (λs=>0<=s.1/\s.1<=(L.length:Int)/\(s.2.length:Int)<=s.1) (λs=>((L.length:Int) - s.1).toNat) ?_ (s:=(0,[])) ⟨by simp,by simp,by simp⟩ (by simp;omega)
   ·obtain ⟨r,hr,x,rfl⟩:=this;exact .inr ⟨(k+1,a++[x]),hr,⟨by simp only;omega,by simp only;omega,by simp only[zah,zal];omega⟩,by simp only;omega⟩
   rintro ⟨i,o⟩ ⟨i1,i2,i3⟩;simp only at i1 i2 i3;unfold rB;by_cases hi:i<(L.length:Int)
   ·rw[zab (by simpa using hi),af ⟨i1,hi⟩];split
    ·rw[af ⟨i1,hi⟩,af (by simp only[zal];omega),af ⟨by omega,by omega⟩];exact .inr ⟨(i+1,o++[(nth L i.toNat).id]),rfl,⟨by simp only;omega,by simp only;omega,by simp only[zah,zal];omega⟩,by simp only;omega⟩
    ·rw[af ⟨by omega,by omega⟩];exact .inr ⟨(i+1,o),rfl,⟨by simp only;omega,by simp only;omega,by simp only;omega⟩,by simp only;omega⟩
   ·rw[zaa (by simpa using hi)];unfold oJ;rw[af (by simp only[zal];omega),af ⟨by omega,by omega⟩];exact .inl ⟨_,rfl,_,rfl⟩
 ·rw[zaa (by simpa using c)];exact .inl ⟨_,rfl,rfl⟩
theorem UF (bS:O Event) (t:Int) (hl:bS.length<=10000) (hu:Oe t bS b0=some b) (h:xC n w b) (hn:n<=10000):∃ a,tj bS t=some ⟨a,kr w⟩:=by
 unfold tj;rw[UE bS t b hl hu,zac];have hs:=h.bb.bp;have ha:=h.bb.Pn;have he:=h.bb.ended;have hc:=h.count
 let A:Int->O Sub:=λk=>(w.2.1.filter λz=>decide (z<k)).filterMap (aC w.2.2.2.1)
 have sub:∀ k,(A k).Sublist (kr w):=λk=>List.Sublist.filterMap _ (List.filter_sublist ..)
 have lenA:∀ k,(A k).length<=(kr w).length:=λk=>(sub k).length_le
 have:=uT (step:=λs:Int×O Sub=>rD b s.1 s.2) (λc=>c.bp=kr w) (λs=>1<=s.1/\s.1<=10000/\s.2=A s.1) (λs=>(10000-s.1).toNat) ?_ (s:=(1,[])) ⟨by omega,by omega,?_⟩ (by omega)
 ·obtain ⟨c,hc,e⟩:=this;exact ⟨c.aO,by rw[hc,←e]⟩
 ·rintro ⟨k,l⟩ ⟨k1,k2,k3⟩;simp only at k1 k2 k3;subst k3;have RT:=lenA k;unfold rD;rw[af (λ_=>⟨by omega,by omega⟩)];by_cases c:k<=9999/\((A k).length:Int)<(b.bp.length:Int) - (b.ended.length:Int)
  ·rw[zab (by simpa using c),H4 b k (by omega),zac,Gc b k (by omega),kp,zac];have hA:A (k+1)=A k++(if k∈w.2.1 then [k] else []).filterMap (aC w.2.2.2.1):=by
    show (w.2.1.filter λz=>decide (z<k+1)).filterMap _=_;rw[filter_lt _ _ h.asc,List.filterMap_append]
   rcases AJ b k with ⟨q1,q2⟩|⟨q1,q2,q3⟩
   ·rw[q1];simp only[show decide ((-1:Int)>=0)=false from rfl,zdg,zaz,zbw];rw[af ⟨by omega,by omega⟩];refine .inr ⟨(k+1,A k),rfl,⟨by simp only;omega,by simp only;omega,?_⟩,by simp only;omega⟩;simp only;rw[hA,zaa (λm=>q2 ((h.mem k).1 m))];simp
   ·have d1:decide (mH b k>=0)=true:=by simpa using q1
    have hm:nth b.bp (mH b k).toNat∈b.bp:=kB (by omega);have hk:k∈ua b:=by rw[←q3];exact zcd hm
    rw[zab ((h.mem k).2 hk)] at hA;simp only[d1,zby,zcu];by_cases Fi:k∈b.ended
    ·simp only[Fi,decide_true,zci,zaz,zbw];rw[af ⟨by omega,by omega⟩];refine .inr ⟨(k+1,A k),rfl,⟨by simp only;omega,by simp only;omega,?_⟩,by simp only;omega⟩;simp only;rw[hA,zef,h.JP Fi];simp
    ·simp only[Fi,zfm,zcm,zby];rw[af ⟨q1,q2⟩,af (by simp only[zal];omega),af ⟨by omega,by omega⟩];refine .inr ⟨(k+1,A k++[nth b.bp (mH b k).toNat]),rfl,⟨by simp only;omega,by simp only;omega,?_⟩,by simp only;omega⟩;simp only;have hl:=h.look _ hm;rw[q3,zaa Fi] at hl;rw[hA,zef,hl];simp
  ·rw[zaa (by simpa using c)];obtain ⟨a,ha⟩:=p_accs b (A k) (by omega) (by omega);rw[ha];refine .inl ⟨_,rfl,?_⟩;simp only;by_cases hk:k<=9999
   ·exact (sub k).eq_of_length_le (by omega)
   ·show (w.2.1.filter λz=>decide (z<k)).filterMap _=_;rw[zdv.2 λz hz=>by have:=h.rng z ((h.mem z).1 hz);simp;omega];rfl
 ·show []=(w.2.1.filter λz=>decide (z<1)).filterMap _;rw[zcx.2 λz hz=>by have:=h.rng z ((h.mem z).1 hz);simp;omega];rfl
end state
def FN (x:O uA) (L:O Sub):J Sub:=L.find? λs=>decide (x∈s.numbers)
theorem Cj (id:Int) (x:O uA):∀ (ns:O (O uA)) (o:O ((O uA)×Int)),aC (ns.foldl (λo n=>dm o n id) o) x=if x∈ns then some id else aC o x
 | [],o=>by simp
 | a::ns,o=>by
  rw[List.foldl_cons,Cj id x ns,dV];by_cases h:x∈ns
  ·rw[zab h,zab (zai _ h)]
  ·rw[zaa h];by_cases h2:x=a
   ·rw[zab (by simpa using h2),zab (by rw[h2];exact zaj ..)]
   ·rw[zaa (by simpa using h2),zaa (by simp [h,h2])]
theorem NR (x:List uA):∀ (L:List Sub) (o:List ((List uA)×Int)),(∀ s s',s∈L->s'∈L->x∈s.numbers->x∈s'.numbers->s.id=s'.id)->aC (owF L o) x=match FN x L with|some s=>some s.id|none=>aC o x
 | [],o,_=>rfl
 | s::l,o,h=>by
  have ih:=NR x l (s.numbers.foldl (λo n=>dm o n s.id) o) λa b ha hb=>h a b (zai _ ha) (zai _ hb)
  unfold owF;rw[ih];unfold FN;rw[List.find?_cons];by_cases hx:x∈s.numbers
  ·rw[show decide (x∈s.numbers)=true from by simpa using hx];simp only;cases hf:l.find? λs=>decide (x∈s.numbers) with
   | none=>simp only[Cj,hx,zby]
   | some s' =>
    have h1:=List.mem_of_find?_eq_some hf;have h2:=List.find?_some hf;simp only;rw[h s s' (zaj ..) (zai _ h1) hx (by simpa using h2)]
  ·rw[show decide (x∈s.numbers)=false from by simpa using hx];simp only;cases hf:l.find? λs=>decide (x∈s.numbers) with
   | none=>simp only[Cj,hx,zbw]
   | some s'=>rfl
theorem NT:∀ (L:O Sub),(L.map (·.id)).Nodup->∀ s,s∈L->NL s.id L=(s,true)
 | [],_,s,h=>by simp at h
 | a::l,hn,s,h=>by
  rw[zao,zcb] at hn;unfold NL;rcases zan.1 h with rfl|h
  ·rw[zab rfl]
  ·rw[zaa (λq=>hn.1 (by rw[q];exact zcd h))];exact NT l hn.2 s h
section state
variable {n:Nat} {w:W7} {b:Bk}
theorem xC.own (h:xC n w b) (x:List uA):Li (kr w) x=match FN x (kr w) with|some s=>(s,true)|none=>(wm,false):=by
 unfold Li;rw[NR x _ _ λs s' hs wS=>h.num s s' x (h.Ab hs).1 (h.Ab wS).1];cases hf:FN x (kr w) with
 | none=>simp [aC]
 | some s =>
  simp only;exact NT _ h.XF s (List.mem_of_find?_eq_some hf)
theorem UG (bS:List Event) (x:List uA) (t:Int) (hl:bS.length<=10000) (hu:Oe t bS b0=some b) (h:xC n w b) (hn:n<=10000):tn bS x t=some (match FN x (kr w) with|some s=>(s.id,true)|none=>(0,false)):=by
 unfold tn;obtain ⟨a,ha⟩:=UF bS t hl hu h hn;rw[ha,zac];have hlen:=NN h.wb;have hnum:=JN h.wb;refine bm (step:=λs:Int=>oK x ⟨a,kr w⟩ s) (kr w) (λs=>s) (λs r=>some (match FN x r with|some s=>(s.id,true)|none=>(0,false))) (λs r=>0<=s/\∀ z,z∈r->z.numbers.length<=10000) (by omega) ?_ ?_ (s:=0) rfl ⟨by omega,λz hz=>by have:=hnum z hz;omega⟩
 ·rintro i ⟨h1,_⟩ h2;refine ⟨_,?_,rfl⟩;unfold oK;rw[zaa (by simp only[zak];omega)];rfl
 ·rintro i s r ⟨h1,h2⟩ h3 h4 h5 h6;have hs:=h2 s (zaj ..);unfold oK;rw[zab (by simpa using h4),af ⟨h3,h4⟩,h5,Lj _ _ (by omega),zac];by_cases hx:x∈s.numbers
  ·rw[zab (by simpa using hx),af ⟨h3,h4⟩];refine .inl ⟨_,rfl,?_⟩;unfold FN;rw[List.find?_cons,show decide (x∈s.numbers)=true from by simpa using hx]
  ·rw[zaa (by simpa using hx),af ⟨by omega,by omega⟩];refine .inr ⟨i+1,rfl,⟨by omega,λz hz=>h2 z (zai _ hz)⟩,rfl,?_⟩;unfold FN;rw[List.find?_cons,show decide (x∈s.numbers)=false from by simpa using hx]
theorem p_rSub (bS:O Event) (s:Sub) (t:Int) (hl:bS.length<=10000) (hu:Oe t bS b0=some b) (h:xC n w b) (hn:n<=10000) (hs:s∈kr w):xh bS s.id t=some (s,true):=by
 unfold xh;have h1:=h.bb.bp;have h2:=h.bb.ended;obtain ⟨m,e⟩:=h.Ab hs;rw[UE bS t b hl hu,zac,H4 b _ (by omega),zac,Gc b _ (by omega),kp,zac];rcases AJ b s.id with ⟨_,q⟩|⟨q1,q2,q3⟩
 ·exact absurd (zcd m) q
 ·rw[show decide (mH b s.id<0)=false from by simp;omega,show decide (s.id∈b.ended)=false from by simpa using e];simp only[zcm,zby,zgd,zaz,zbw];rw[af ⟨q1,q2⟩,h.find (kB (by omega)) m q3]
theorem xC.own_ne (h:xC n w b):FN [] (kr w)=none:=by
 cases hf:FN [] (kr w) with
 | none=>rfl
 | some s =>
  have h1:=List.mem_of_find?_eq_some hf;have h2:=List.find?_some hf;exact absurd (by simpa using h2) (h.ne s (h.Ab h1).1)
theorem QN (bS:O Event) (r:aa) (id:Int) (x:O uA) (hl:bS.length<=10000) (hu:Oe r.start bS b0=some b) (h:xC n w b) (hn:n<=10000) (hx:x=A5 r) (e0:da r=0) (p0:r.part=0):ki bS r id x=some (FM (kr w) r id):=by
 subst hx;unfold ki FM;rw[UG bS _ _ hl hu h hn,zac,h.own,zaa (show ¬(da r≠0) from λk=>k e0),zaa (show ¬(r.part≠0) from λk=>k p0)];cases hf:FN (A5 r) (kr w) with
 | none=>simp [H3]
 | some s =>
  have hm:=List.mem_of_find?_eq_some hf;simp only[zci,zdm];by_cases hz:A5 r=[]
  ·rw[hz,h.own_ne] at hf;cases hf
  ·rw[zaa (by simpa using hz),p_rSub bS s _ hl hu h hn hm,zac];simp only[Bool.true_eq_false,zbw];by_cases hc:s.bY=true/\r.bL=false
   ·rw[zab (by simp [hc]),zab hc];rfl
   ·rw[zaa (by simpa using hc),zaa hc]
theorem UH (bS:O Event) (r:aa) (id:Int) (hl:bS.length<=10000) (hu:Oe r.start bS b0=some b) (h:xC n w b) (hn:n<=10000) (hs:Sm r):oL bS r id=some (FM (kr w) r id):=by
 unfold oL;rw[HF r hs,zac];by_cases h1:da r=0
 ·rw[zaa (by simpa using h1)];by_cases h2:r.part=0
  ·rw[zaa (by simpa using h2)];split
   ·rename_i hi;exact QN bS r id _ hl hu h hn (by unfold A5;rw[zab hi]) h1 h2
   ·rename_i hi;exact QN bS r id _ hl hu h hn (by unfold A5;rw[zaa hi]) h1 h2
  ·rw[zab (by simpa using h2)];unfold FM;rw[zaa (show ¬(da r≠0) from λk=>k h1),zab h2];rfl
 ·rw[zab (by simpa using h1)];unfold FM;rw[zab h1];rfl
end state
theorem QO (bS:O Event) (t:Int) (hl:bS.length<=40) (hv:VC b0 0 bS):∃ w b,NJ t bS w0=some w/\Oe t bS b0=some b/\xC bS.length w b:=by
 obtain ⟨w,b,h1,h2,h3⟩:=QL t bS 0 w0 b0 0 inv0 (by omega) hv;rw[zbu] at h3;exact ⟨w,b,h1,h2,h3⟩
theorem R2 (r:aa) (h:da r=0) (p:r.part=0):r.call=0/\r.last=false:=by
 unfold da at h
 repeat' split at h
 all_goals first|omega|skip
 rename_i h8 _ _;refine ⟨by omega,?_⟩;cases hl:r.last with
 | false=>rfl
 | true=>exact absurd (.inr ⟨hl,p⟩) h8
theorem XG {σ:Type} {step:σ->J (σ ⊕ Bool)} (n:Nat) (hn:n<=100000) (I:Nat->σ->Prop) (P:Nat->Prop) (Q:Prop)
  (h:∀ k s,k<n->I k s->(P k/\∃ s',step s=some (.inl s')/\I (k+1) s')∨(¬P k/\step s=some (.inr false)))
  (he:∀ s,I n s->∃ b,step s=some (.inr b)/\(b=true↔Q)) {s:σ} (hs:I 0 s):∃ b,loop step s=some b/\(b=true↔(∀ k,k<n->P k)/\Q):=by
 have key:∀ (m:Nat) (k:Nat) (s:σ),n-k<=m->k<=n->I k s->(∀ j,j<k->P j)->∀ f,m+1<=f->∃ b,iter step f s=some b/\(b=true↔(∀ k,k<n->P k)/\Q):=by
  intro m
  induction m with
  | zero =>
   intro k s hk hkn hI hP f hf;have:k=n:=by omega
   subst this;obtain ⟨b,h1,h2⟩:=he s hI;obtain ⟨f,rfl⟩:∃ g,f=g+1:=⟨f-1,by omega⟩;exact ⟨b,tF h1,h2.trans ⟨λq=>⟨hP,q⟩,λq=>q.2⟩⟩
  | succ m ih =>
   intro k s hk hkn hI hP f hf;obtain ⟨f,rfl⟩:∃ g,f=g+1:=⟨f-1,by omega⟩;by_cases e:k=n
   ·subst e;obtain ⟨b,h1,h2⟩:=he s hI;exact ⟨b,tF h1,h2.trans ⟨λq=>⟨hP,q⟩,λq=>q.2⟩⟩
   ·rcases h k s (by omega) hI with ⟨p,s',h1,h2⟩|⟨p,h1⟩
    ·obtain ⟨b,q1,q2⟩:=ih (k+1) s' (by omega) (by omega) h2 (λj hj=>by
      by_cases ej:j=k
      ·rw[ej];exact p
      ·exact hP j (by omega)) f (by omega)
     exact ⟨b,by rw[Dt h1];exact q1,q2⟩
    ·exact ⟨false,tF h1,by simp;intro q;exact absurd (q k (by omega)) p⟩
 have:=key n 0 s (by omega) (by omega) hs (λj hj=>by omega) 18446744073709551616 (by omega);exact this
theorem scan {step:Int->J (Int ⊕ Bool)} (n:Nat) (hn:n<=100000) (P:Nat->Prop) (Q:Prop)
  (h:∀ k:Nat,k<n->(P k/\step (k:Int)=some (.inl ((k:Int)+1)))∨(¬P k/\step (k:Int)=some (.inr false)))
  (he:∃ b,step (n:Int)=some (.inr b)/\(b=true↔Q)):∃ b,loop step 0=some b/\(b=true↔(∀ k,k<n->P k)/\Q):=by
 refine XG n hn (λk s=>s=(k:Int)) P Q ?_ ?_ (s:=0) rfl
 ·rintro k s hk rfl;rcases h k hk with ⟨p,e⟩|⟨p,e⟩
  ·exact .inl ⟨p,_,e,by omega⟩
  ·exact .inr ⟨p,e⟩
 ·rintro s rfl;exact he
theorem Ge {α:Type} [Inhabited α] {l:O α} {P:α->Prop}:(∀ k,k<l.length->P (nth l k))↔∀ x,x∈l->P x:=by
 constructor
 ·intro h x hx;obtain ⟨k,hk,e⟩:=List.getElem_of_mem hx;have:=h k hk
  rwa [og hk,e] at this
 ·intro h k hk;exact h _ (kB hk)
theorem NU {α:Type} [Inhabited α] {l:O α} {R:α->α->Prop}:(∀ k,k<l.length->∀ j,j<k->R (nth l j) (nth l k))↔l.Pairwise R:=by
 rw[List.pairwise_iff_getElem];constructor
 ·intro h i j hi hj PK;have:=h j hj i PK
  rwa [og hi,og hj] at this
 ·intro h k hk j hj;have:=h j k (by omega) hk hj
  rwa [og hk,og (by omega)]
def nO:List Range->Int
 | []=>0
 | r::l=>(r.kV-r.from_+1)+nO l
def vN:List Head->Int
 | []=>0
 | h::l=>h.count+vN l
theorem Gf:∀ {l:O Range},(∀ r,r∈l->qC r)->0<=nO l/\nO l<=l.length*1000000000
 | [],_=>by simp [nO]
 | r::l,h=>by
  have h1:=h r (zaj ..);have h2:=Gf λx hx=>h x (zai _ hx)
  unfold qC at h1;rw[nO,zad];omega
theorem QP:∀ {l:O Head},(∀ r,r∈l->ED r)->0<=vN l/\vN l<=l.length*5000
 | [],_=>by simp [vN]
 | r::l,h=>by
  have h1:=h r (zaj ..);have h2:=QP λx hx=>h x (zai _ hx)
  unfold ED at h1;rw[vN,zad];omega
theorem WM (l:O Range) (h:∀ r,r∈l->qC r) (hl:l.length<=10000):qd l=some (nO l):=by
 unfold qd;have:=bm (step:=λs:Int×Int=>mz l s.1 s.2) l (λs=>s.2) (λs t=>some (s.1+nO t)) (λs t=>(0<=s.1/\s.1+t.length*1000000000<=10000*1000000000)/\∀ r,r∈t->qC r) (by omega) ?_ ?_ (s:=(0,0)) rfl ⟨by simp only;omega,h⟩
 ·rw[this];simp
 ·rintro ⟨n,i⟩ ⟨h1,_⟩ h2;simp only at h1 h2;refine ⟨n,?_,by simp [nO]⟩;unfold mz;rw[zaa (by simp only[zak];omega)]
 ·rintro ⟨n,i⟩ r t ⟨h1,h2⟩ h3 h4 h5 h6;simp only at h1 h3 h4 h5 h6;have hr:=h2 r (zaj ..);rw[zad] at h1;unfold qC at hr;unfold mz;rw[zab (by simpa using h4),af ⟨h3,h4⟩,h5,af ⟨by omega,by omega⟩,af ⟨by omega,by omega⟩,af ⟨by omega,by omega⟩,af ⟨by omega,by omega⟩];refine .inr ⟨(n+(r.kV-r.from_+1),i+1),rfl,⟨by simp only;omega,λx hx=>h2 x (zai _ hx)⟩,rfl,?_⟩
  simp only[nO];rw[Int.add_assoc]
theorem UI (l:O Range) (h:∀ r,r∈l->qC r) (hl:l.length<=10000):tx l=some (nO l):=by
 unfold tx;have:=bm (step:=λs:Int×Int=>oY l s.1 s.2) l (λs=>s.2) (λs t=>some (s.1+nO t)) (λs t=>(0<=s.1/\s.1+t.length*1000000000<=10000*1000000000)/\∀ r,r∈t->qC r) (by omega) ?_ ?_ (s:=(0,0)) rfl ⟨by simp only;omega,h⟩
 ·rw[this];simp
 ·rintro ⟨n,i⟩ ⟨h1,_⟩ h2;simp only at h1 h2;refine ⟨n,?_,by simp [nO]⟩;unfold oY;rw[zaa (by simp only[zak];omega)]
 ·rintro ⟨n,i⟩ r t ⟨h1,h2⟩ h3 h4 h5 h6;simp only at h1 h3 h4 h5 h6;have hr:=h2 r (zaj ..);rw[zad] at h1;unfold qC at hr;unfold oY;rw[zab (by simpa using h4),af ⟨h3,h4⟩,h5,af ⟨by omega,by omega⟩,af ⟨h3,h4⟩,af ⟨by omega,by omega⟩,af ⟨by omega,by omega⟩,af ⟨by omega,by omega⟩];refine .inr ⟨(n+r.kV-r.from_+1,i+1),rfl,⟨by simp only;omega,λx hx=>h2 x (zai _ hx)⟩,rfl,?_⟩
  simp only[nO];congr 1;omega
def zg (m:ah):bN:=⟨vN m.al.aP,(m.usages.length:Int),((nO m.al.seen-(m.usages.length:Int)) - (m.aH.length:Int)) - (m.al.open_.length:Int),(m.br.length:Int),(m.aH.length:Int),(m.al.open_.length:Int)⟩
structure Bal (m:ah):Prop where
 seen:∀ r,r∈m.al.seen->qC r
 aP:∀ h,h∈m.al.aP->ED h
 l1:m.al.seen.length<=10000
 l2:m.al.aP.length<=10000
 l3:m.al.open_.length<=10000
 l4:m.usages.length<=10000
 l5:m.aH.length<=10000
 l6:m.br.length<=10000
theorem JQ (m:ah) (h:Bal m):eO m=some (zg m):=by
 have b1:=Gf h.seen;have:=h.l1;have:=h.l2;have:=h.l3;have:=h.l4;have:=h.l5;unfold eO;have:=bm (step:=λs:Int×Int=>gW m s.1 s.2) m.al.aP (λs=>s.1) (λs t=>some (⟨s.2+vN t,(m.usages.length:Int),((nO m.al.seen-(m.usages.length:Int)) - (m.aH.length:Int)) - (m.al.open_.length:Int),(m.br.length:Int),(m.aH.length:Int),(m.al.open_.length:Int)⟩:bN))
  (λs t=>(0<=s.2/\s.2+t.length*5000<=10000*5000)/\∀ r,r∈t->ED r) (by omega) ?_ ?_ (s:=(0,0)) rfl ⟨by simp only;omega,h.aP⟩
 ·rw[this];simp [zg]
 ·rintro ⟨i,n⟩ ⟨h1,_⟩ h2;simp only at h1 h2;refine ⟨_,?_,rfl⟩;unfold gW;rw[zaa (by simp only[zak];omega)];unfold gV;rw[WM _ h.seen h.l1,zac,af ⟨by omega,by omega⟩,af ⟨by omega,by omega⟩,af ⟨by omega,by omega⟩];simp [vN]
 ·rintro ⟨i,n⟩ r t ⟨h1,h2⟩ h3 h4 h5 h6;simp only at h1 h3 h4 h5 h6;have hr:=h2 r (zaj ..);rw[zad] at h1;unfold ED at hr;unfold gW;rw[zab (by simpa using h4),af ⟨h3,h4⟩,h5,af ⟨by omega,by omega⟩,af ⟨by omega,by omega⟩];refine .inr ⟨(i+1,n+r.count),rfl,⟨by simp only;omega,λx hx=>h2 x (zai _ hx)⟩,rfl,?_⟩
  simp only[vN];rw[Int.add_assoc]
theorem Ps (m:ah) (h:Bal m):ql m=some (zg m):=by
 have b1:=Gf h.seen;have:=h.l1;have:=h.l2;have:=h.l3;have:=h.l4;have:=h.l5;unfold ql;have:=bm (step:=λs:Int×Int=>mE m s.1 s.2) m.al.aP (λs=>s.1) (λs t=>some (⟨s.2+vN t,(m.usages.length:Int),((nO m.al.seen-(m.usages.length:Int)) - (m.aH.length:Int)) - (m.al.open_.length:Int),(m.br.length:Int),(m.aH.length:Int),(m.al.open_.length:Int)⟩:bN))
  (λs t=>(0<=s.2/\s.2+t.length*5000<=10000*5000)/\∀ r,r∈t->ED r) (by omega) ?_ ?_ (s:=(0,0)) rfl ⟨by simp only;omega,h.aP⟩
 ·rw[this];simp [zg]
 ·rintro ⟨i,n⟩ ⟨h1,_⟩ h2;simp only at h1 h2;refine ⟨_,?_,rfl⟩;unfold mE;rw[zaa (by simp only[zak];omega)];unfold mD;rw[UI _ h.seen h.l1,zac,af ⟨by omega,by omega⟩,af ⟨by omega,by omega⟩,af ⟨by omega,by omega⟩];simp [vN]
 ·rintro ⟨i,n⟩ r t ⟨h1,h2⟩ h3 h4 h5 h6;simp only at h1 h3 h4 h5 h6;have hr:=h2 r (zaj ..);rw[zad] at h1;unfold ED at hr;unfold mE;rw[zab (by simpa using h4),af ⟨h3,h4⟩,h5,af ⟨by omega,by omega⟩,af ⟨by omega,by omega⟩];refine .inr ⟨(i+1,n+r.count),rfl,⟨by simp only;omega,λx hx=>h2 x (zai _ hx)⟩,rfl,?_⟩
  simp only[vN];rw[Int.add_assoc]
theorem XH {σ R:Type} {step:σ->J (σ ⊕ R)} (n:Nat) (hn:n<=100000) (I:Nat->σ->Prop) (P:Nat->Prop) (E B:R->Prop)
  (h:∀ k s,k<n->I k s->(P k/\∃ s',step s=some (.inl s')/\I (k+1) s')∨(¬P k/\∃ r,step s=some (.inr r)/\B r))
  (he:∀ s,I n s->∃ r,step s=some (.inr r)/\E r) {s:σ} (hs:I 0 s):∃ r,loop step s=some r/\(((∀ k,k<n->P k)/\E r)∨(¬(∀ k,k<n->P k)/\B r)):=by
 have key:∀ (m:Nat) (k:Nat) (s:σ),n-k<=m->k<=n->I k s->(∀ j,j<k->P j)->∀ f,m+1<=f->∃ r,iter step f s=some r/\(((∀ k,k<n->P k)/\E r)∨(¬(∀ k,k<n->P k)/\B r)):=by
  intro m
  induction m with
  | zero =>
   intro k s hk hkn hI hP f hf;have:k=n:=by omega
   subst this;obtain ⟨b,h1,h2⟩:=he s hI;obtain ⟨f,rfl⟩:∃ g,f=g+1:=⟨f-1,by omega⟩;exact ⟨b,tF h1,.inl ⟨hP,h2⟩⟩
  | succ m ih =>
   intro k s hk hkn hI hP f hf;obtain ⟨f,rfl⟩:∃ g,f=g+1:=⟨f-1,by omega⟩;by_cases e:k=n
   ·subst e;obtain ⟨b,h1,h2⟩:=he s hI;exact ⟨b,tF h1,.inl ⟨hP,h2⟩⟩
   ·rcases h k s (by omega) hI with ⟨p,s',h1,h2⟩|⟨p,r,h1,h2⟩
    ·obtain ⟨b,q1,q2⟩:=ih (k+1) s' (by omega) (by omega) h2 (λj hj=>by
      by_cases ej:j=k
      ·rw[ej];exact p
      ·exact hP j (by omega)) f (by omega)
     exact ⟨b,by rw[Dt h1];exact q1,q2⟩
    ·exact ⟨r,tF h1,.inr ⟨λq=>p (q k (by omega)),h2⟩⟩
 have:=key n 0 s (by omega) (by omega) hs (λj hj=>by omega) 18446744073709551616 (by omega);exact this
def rT (u:aA):aa:=⟨u.source,u.aF,u.kind,u.a,u.b,u.start,u.cX,0,0,false,u.dh,u.bL⟩
def n9 (m:ah):O aa:=m.usages.map rT++m.aH++m.al.open_
def NV (m:ah) (k:Nat):Prop:=(nth m.usages k).id=(k:Int)+1/\(1<=(nth m.usages k).az/\(nth m.usages k).az<=9999)/\(1<=(nth m.usages k).sub/\(nth m.usages k).sub<=9999)
def NW (b:bN):Prop:=0<=b.merged/\b.read=b.accepted+b.merged+b.rejected+b.bY+b.open_
structure lN (m:ah):Prop where
 al:o7 m.al
 usg:∀ k,k<m.usages.length->NV m k
 WN:∀ r,r∈m.aH->r.part=0
 rej:∀ x,x∈m.br->x.err=15∨x.err=13
 valid:∀ r,r∈n9 m->da r=0
 seen:∀ r,r∈n9 m->(hasB m.al.seen r.source r.aF && Ds r.source r.aF)=true
 uniq:(n9 m).Pairwise NS
 bal:NW (zg m)
structure H7 (m:ah):Prop where
 al:SmI m.al
 l1:m.usages.length<=1000
 l2:m.aH.length<=1000
 l3:m.br.length<=1000
 u:∀ u,u∈m.usages->Sm (rT u)
 s:∀ r,r∈m.aH->Sm r
theorem H7.bal {m:ah} (h:H7 m) (g:o7 m.al):Bal m:=⟨g.can.ok,λx hx=>HP g.aP x hx,by have:=h.al.seen;omega,by have:=h.al.aP;omega,by have:=h.al.opens;omega,by have:=h.l1;omega,by have:=h.l2;omega,by have:=h.l3;omega⟩
theorem UJ (m:ah):(n9 m).length=m.usages.length+m.aH.length+m.al.open_.length:=by simp [n9];omega
theorem WO {m:ah} (h:Bal m):(0<=(zg m).read/\(zg m).read<=1000000000)/\(-100000<=(zg m).merged/\(zg m).merged<=10000000000000)/\(zg m).accepted=m.usages.length/\(zg m).rejected=m.br.length/\(zg m).bY=m.aH.length/\(zg m).open_=m.al.open_.length:=by
 have b1:=Gf h.seen;have b2:=QP h.aP;have:=h.l1;have:=h.l2;have:=h.l3;have:=h.l4;have:=h.l5;have:=h.l6;unfold zg;simp only;refine ⟨⟨by omega,by omega⟩,⟨by omega,by omega⟩,by first|rfl|trivial,by first|rfl|trivial,by first|rfl|trivial,by first|rfl|trivial⟩
theorem UK {m:ah} (h:Bal m):∃ b,(some (zg m)).bind (λy6=>ck ((decide (y6.merged>=0))=true->(dp (y6.accepted+y6.merged))) (ck ((decide (y6.merged>=0))=true->(dp ((y6.accepted+y6.merged)+y6.rejected))) (ck ((decide (y6.merged>=0))=true->(dp (((y6.accepted+y6.merged)+y6.rejected)+y6.bY))) (ck ((decide (y6.merged>=0))=true->(dp ((((y6.accepted+y6.merged)+y6.rejected)+y6.bY)+y6.open_))) (some ((decide (y6.merged>=0)) && (y6.read==((((y6.accepted+y6.merged)+y6.rejected)+y6.bY)+y6.open_))))))))=some b/\(b=true↔NW (zg m)):=by
 obtain ⟨h1,h2,h3,h4,h5,h6⟩:=WO h;have:=h.l1;have:=h.l2;have:=h.l3;have:=h.l4;have:=h.l5;have:=h.l6;rw[zac,af (λ_=>⟨by omega,by omega⟩),af (λ_=>⟨by omega,by omega⟩),af (λ_=>⟨by omega,by omega⟩),af (λ_=>⟨by omega,by omega⟩)];refine ⟨_,rfl,?_⟩;unfold NW;simp
theorem Lm:qN=some true:=by kernel_rfl
def NX:List (List aa)->Nat
 | []=>0
 | a::t=>a.length+NX t
theorem UL (ls:O (O aa)) (h1:ls.length<=1000) (h2:NX ls<=100000):gX ls=some ls.flatten:=by
 unfold gX;have inner:∀ n:Int,0<=n->n<=1000000000->eA ls n=some ls.flatten:=λn n0 n1=>by
  unfold eA ya;rw[af ⟨n0,n1⟩,zac];have:=bm (step:=λs:O aa×Int=>fH ls s.1 s.2) ls (λs=>s.2) (λs t=>some (s.1++t.flatten)) (λs t=>s.1.length+NX t<=100000) (by omega) ?_ ?_ (s:=([],0)) rfl (by simpa using h2)
  ·rw[this];simp
  ·rintro ⟨o,i⟩ h3 h4;simp only at h3 h4;refine ⟨o,?_,by simp⟩;unfold fH;rw[zaa (by simp only[zak];omega)]
  ·rintro ⟨o,i⟩ a t h3 h4 h5 h6 h7;simp only at h3 h4 h5 h6 h7;rw[NX] at h3;unfold fH;simp only;rw[zab (by simpa using h5),af ⟨h4,h5⟩,h6,af (by omega),af ⟨by omega,by omega⟩];exact .inr ⟨(o++a,i+1),rfl,by simp only[zah];omega,rfl,by simp⟩
 refine bm (step:=λs:Int×Int=>fJ ls s.1 s.2) ls (λs=>s.2) (λs t=>some ls.flatten) (λs t=>0<=s.1/\s.1+(NX t:Int)<=100000) (by omega) ?_ ?_ (s:=(0,0)) rfl (by simp only;omega)
 ·rintro ⟨n,i⟩ ⟨h3,h4⟩ h5;simp only at h3 h4 h5;refine ⟨ls.flatten,?_,rfl⟩;unfold fJ;rw[zaa (by simp only[zak];omega),inner n h3 (by simp only[NX] at h4;omega)];rfl
 ·rintro ⟨n,i⟩ a t ⟨h3,h4⟩ h5 h6 h7 h8;simp only at h3 h4 h5 h6 h7 h8;rw[NX] at h4;unfold fJ;simp only;rw[zab (by simpa using h6),af ⟨h5,h6⟩,h7,af ⟨by omega,by omega⟩,zaa (by simp;omega),af ⟨by omega,by omega⟩];exact .inr ⟨(n+(a.length:Int),i+1),rfl,⟨by simp only;omega,by simp only;omega⟩,rfl,by first|rfl|trivial⟩
def Ac (m:ah):O aa:=m.aH++m.al.open_++m.usages.map rT
theorem yF (m:ah):(Ac m).Perm (n9 m):=by
 unfold Ac n9;refine zff.trans ?_;rw[zar]
def WQ (r:aa):bc:=⟨r.source,r.aF⟩
theorem QQ (a b:aa):NS a b↔WQ a≠WQ b:=by
 unfold NS WQ;simp
def UM (m:ah) (l:O aa) (k:Nat):Prop:=(∀ j,j<k->NS (nth l j) (nth l k))/\(hasB m.al.seen (nth l k).source (nth l k).aF && Ds (nth l k).source (nth l k).aF)=true
theorem p_plc1 (m:ah) (g:o7 m.al) (hs:m.al.seen.length<=1000) (l:O aa) (hl:l.length<=10000):∃ b,eU m l=some b/\(b=true↔(∀ k,k<l.length->UM m l k)):=by
 unfold eU;have Pt:=XG (step:=λs:Int×O (bc×Bool)=>iE m l s.1 s.2) l.length (by omega) (λk s=>s.1=(k:Int)/\∀ x,(aC s.2 x).getD false=true↔∃ j,j<k/\WQ (nth l j)=x) (UM m l) True ?_ ?_ (s:=(0,[])) ⟨rfl,λx=>by simp [aC]⟩
 ·obtain ⟨b,h1,h2⟩:=Pt;exact ⟨b,h1,by rw[h2];simp⟩
 ·rintro k ⟨i,o⟩ hk ⟨rfl,hi⟩;simp only at hi;have b1:(0:Int)<=(k:Int)/\(k:Int)<(l.length:Int):=by omega
  unfold iE;simp only;rw[zab (by simpa using hk),af b1];simp only[zcr];rw[T9 _ _ _ g.can (by omega),kp,zac];have hd:((aC o (⟨(nth l k).source,(nth l k).aF⟩:bc)).getD false=true)↔∃ j,j<k/\WQ (nth l j)=WQ (nth l k):=hi (WQ (nth l k));by_cases hf:(aC o (⟨(nth l k).source,(nth l k).aF⟩:bc)).getD false=true
  ·rw[zab (by rw[hf];rfl)];refine .inr ⟨λq=>?_,rfl⟩;obtain ⟨j,hj,e⟩:=hd.1 hf;exact (QQ _ _).1 (q.1 j hj) e
  ·have hf':(aC o (⟨(nth l k).source,(nth l k).aF⟩:bc)).getD false=false:=by simpa using hf
   rw[hf',zab (c:=(!false)=true) rfl];by_cases hh:(hasB m.al.seen (nth l k).source (nth l k).aF && Ds (nth l k).source (nth l k).aF)=true
   ·rw[zaa (by rw[hh];simp),af ⟨by omega,by omega⟩];refine .inl ⟨⟨λj hj=>(QQ _ _).2 λe=>hf (hd.2 ⟨j,hj,e⟩),hh⟩,_,rfl,by simp only;omega,λx=>?_⟩
    simp only;rw[dV];by_cases hx:x=WQ (nth l k)
    ·rw[zab (by rw[hx];exact zfj _)];exact ⟨λ_=>⟨k,by omega,hx.symm⟩,λ_=>rfl⟩
    ·rw[zaa (by simpa [WQ] using hx),hi x];constructor
     ·rintro ⟨j,hj,e⟩;exact ⟨j,by omega,e⟩
     ·rintro ⟨j,hj,e⟩;by_cases ej:j=k
      ·rw[ej] at e;exact absurd e.symm hx
      ·exact ⟨j,by omega,e⟩
   ·rw[zab (by rw[Bool.eq_false_iff.2 hh];rfl)];exact .inr ⟨λq=>hh q.2,rfl⟩
 ·rintro ⟨i,o⟩ ⟨rfl,_⟩;refine ⟨true,?_,by simp⟩;unfold iE;simp only;rw[zaa (by simp)]
theorem UN (m:ah) (h:H7 m) (g:o7 m.al):∃ b,kf m=some b/\(b=true↔(∀ k,k<(Ac m).length->UM m (Ac m) k)):=by
 have:=h.l1;have:=h.l2;have:=h.al.opens;have:=h.al.seen;unfold kf;rw[UL _ (by simp) (by simp [NX];omega),zac];have hlen:(Ac m).length<=10000:=by rw[(yF m).length_eq,UJ];omega
 obtain ⟨b,h1,h2⟩:=p_plc1 m g (by omega) (Ac m) hlen;refine ⟨b,?_,h2⟩;rw[←h1];have:=bm (step:=λs:O aa×Int=>iF m s.1 s.2) m.usages (λs=>s.2) (λs t=>eU m (s.1++t.map rT)) (λs t=>(0<=s.2/\s.2<=1000/\(s.1.length:Int)<=2000+s.2)/\s.1++t.map rT=Ac m) (by omega) ?_ ?_ (s:=([m.aH,m.al.open_].flatten,0)) rfl ⟨⟨by simp,by simp,by simp;omega⟩,by simp [Ac]⟩
 ·rw[this];simp [Ac]
 ·rintro ⟨o,i⟩ ⟨⟨h3,h4,h5⟩,h6⟩ h7;simp only at h3 h4 h5 h6 h7;rw[h6];refine ⟨b,?_,h1⟩;unfold iF;rw[zaa (by simp only[zak];omega),show o=Ac m from by simpa using h6,h1];rfl
 ·rintro ⟨o,i⟩ u t ⟨⟨h3,h4,h5⟩,h6⟩ h7 h8 h9 K1;simp only at h3 h4 h5 h6 h7 h8 h9 K1;unfold iF iL;simp only;rw[zab (by simpa using h8),af ⟨h7,h8⟩,h9,zac,af (by simp only[zal];omega),af ⟨by omega,by omega⟩];refine .inr ⟨(o++[rT u],i+1),rfl,⟨⟨by simp only;omega,by simp only;omega,by simp only[zah,zal];omega⟩,by simpa using h6⟩,rfl,by simp⟩
theorem p_usgs (m:ah) (h:H7 m):∃ b,kc m.usages=some b/\(b=true↔(∀ k,k<m.usages.length->NV m k/\da (rT (nth m.usages k))=0)):=by
 have:=h.l1;unfold kc;have Pt:=scan (step:=λs:Int=>iD m.usages s) m.usages.length (by omega) (λk=>NV m k/\da (rT (nth m.usages k))=0) True ?_ ?_
 ·obtain ⟨b,h1,h2⟩:=Pt;exact ⟨b,h1,by rw[h2];simp⟩
 ·intro k hk;have b1:(0:Int)<=(k:Int)/\(k:Int)<(m.usages.length:Int):=by omega
  unfold iD iL;rw[zab (by simpa using hk),af b1,af ⟨by omega,by omega⟩];simp only[zcr];have hc:∀ c:Bool,c=((((nth m.usages k).id != ((k:Int)+1)) || (decide ((if (nth m.usages k).sub<(nth m.usages k).az then (nth m.usages k).sub else (nth m.usages k).az)<1))) || (decide ((if (nth m.usages k).sub > (nth m.usages k).az then (nth m.usages k).sub else (nth m.usages k).az) > 9999)))->(c=false↔NV m k):=by
   rintro c rfl;unfold NV;simp only[zge,bne_eq_false_iff_eq,zct];constructor
   ·rintro ⟨⟨q1,q2⟩,q3⟩;split at q2 <;> split at q3 <;> exact ⟨q1,by omega,by omega⟩
   ·rintro ⟨q1,q2,q3⟩;refine ⟨⟨q1,?_⟩,?_⟩
    ·split <;> omega
    ·split <;> omega
  generalize Cs:((((nth m.usages k).id != ((k:Int)+1)) || (decide ((if ((nth m.usages k).sub)<((nth m.usages k).az) then ((nth m.usages k).sub) else ((nth m.usages k).az))<1))) || (decide ((if ((nth m.usages k).sub) > ((nth m.usages k).az) then ((nth m.usages k).sub) else ((nth m.usages k).az)) > 9999)))=c;have hc:=hc c Cs.symm;cases c with
  | true =>
   simp only[zci,cG,zbw,zac,zfd,zby,zaz];exact .inr ⟨λq=>absurd (hc.2 q.1) (by simp),by first|rfl|trivial⟩
  | false =>
   have hu:=hc.1 rfl;simp only[zcm,cG,zby,zac,zdm];have hm:=h.u (nth m.usages k) (kB hk);rw[show (⟨(nth m.usages k).source,(nth m.usages k).aF,(nth m.usages k).kind,(nth m.usages k).a,(nth m.usages k).b,(nth m.usages k).start,(nth m.usages k).cX,0,0,false,(nth m.usages k).dh,(nth m.usages k).bL⟩:aa)=rT (nth m.usages k) from rfl,Ax _ hm,zac];by_cases he:da (rT (nth m.usages k))=0
   ·rw[zaa (by simpa using he),af ⟨by omega,by omega⟩];exact .inl ⟨⟨hu,he⟩,rfl⟩
   ·rw[zab (by simpa using he)];exact .inr ⟨λq=>he q.2,rfl⟩
 ·refine ⟨true,?_,by simp⟩;unfold iD;rw[zaa (by simp)]
theorem R3 (r:aa) (h:Sm r):jC r=some (!(decide (r.part=0/\da r=0))):=by
 unfold jC;rw[Ax _ h,kp,zac];generalize da r=e;by_cases hp:r.part=0
 ·rw[zab (by simp [hp])];by_cases he:e=0
  ·rw[zdt ⟨hp,he⟩];simp [hp,he]
  ·rw[zda λq=>he q.2];simp [he]
 ·rw[zda λq=>hp q.1];simp [hp]
theorem p_susp (m:ah) (h:H7 m):∃ b,nu m.aH=some b/\(b=false↔(∀ k,k<m.aH.length->(nth m.aH k).part=0/\da (nth m.aH k)=0)):=by
 have:=h.l2;unfold nu qy;have Pt:=XH (step:=λs:Int=>kg m.aH s) m.aH.length (by omega) (λk s=>s=(k:Int)) (λk=>(nth m.aH k).part=0/\da (nth m.aH k)=0) (λr:Int=>r=-1) (λr:Int=>0<=r) ?_ ?_ (s:=0) rfl
 ·obtain ⟨r,h1,h2⟩:=Pt;rw[h1,zac];refine ⟨_,rfl,?_⟩;rw[zct];rcases h2 with ⟨q1,rfl⟩|⟨q1,q2⟩
  ·exact ⟨λ_=>q1,λ_=>by omega⟩
  ·exact ⟨λq=>absurd q2 q,λq=>absurd q q1⟩
 ·rintro k s hk rfl;have b1:(0:Int)<=(k:Int)/\(k:Int)<(m.aH.length:Int):=by omega
  unfold kg;rw[zab (by simpa using hk),af b1];simp only[zcr];rw[R3 _ (h.s _ (kB hk)),zac];by_cases hp:(nth m.aH k).part=0/\da (nth m.aH k)=0
  ·rw[zaa (by rw[zdt hp];simp),af ⟨by omega,by omega⟩];exact .inl ⟨hp,_,rfl,by omega⟩
  ·rw[zab (by rw[zda hp];rfl)];exact .inr ⟨hp,_,rfl,by omega⟩
 ·rintro s rfl;unfold kg;rw[zaa (by simp)];exact ⟨_,rfl,rfl⟩
theorem p_rejs (m:ah) (h:H7 m):∃ b,eL m.br=some b/\(b=false↔(∀ k,k<m.br.length->(nth m.br k).err=15∨(nth m.br k).err=13)):=by
 have:=h.l3;unfold eL iz;have Pt:=XH (step:=λs:Int=>eK m.br s) m.br.length (by omega) (λk s=>s=(k:Int)) (λk=>(nth m.br k).err=15∨(nth m.br k).err=13) (λr:Int=>r=-1) (λr:Int=>0<=r) ?_ ?_ (s:=0) rfl
 ·obtain ⟨r,h1,h2⟩:=Pt;rw[h1,zac];refine ⟨_,rfl,?_⟩;rw[zct];rcases h2 with ⟨q1,rfl⟩|⟨q1,q2⟩
  ·exact ⟨λ_=>q1,λ_=>by omega⟩
  ·exact ⟨λq=>absurd q2 q,λq=>absurd q q1⟩
 ·rintro k s hk rfl;have b1:(0:Int)<=(k:Int)/\(k:Int)<(m.br.length:Int):=by omega
  unfold eK ma;rw[zab (by simpa using hk),af b1];simp only[zcr,zac];by_cases he:(nth m.br k).err=15∨(nth m.br k).err=13
  ·rw[zaa (by simp;intro q;rcases he with he|he;exact absurd he q;exact he),af ⟨by omega,by omega⟩];exact .inl ⟨he,_,rfl,by omega⟩
  ·rw[zab (by simp;exact ⟨λq=>he (.inl q),λq=>he (.inr q)⟩)];exact .inr ⟨he,_,rfl,by omega⟩
 ·rintro s rfl;unfold eK;rw[zaa (by simp)];exact ⟨_,rfl,rfl⟩
theorem p_ck22 (m:ah) (h:H7 m):∃ b,gY m=some b/\(b=true↔lN m):=by
 unfold gY;rw[p_ck m.al h.al,zac];by_cases hg0:ckF m.al=false
 ·rw[hg0];simp only[cG,zcm,zci,zaz,zbw,zby,zac,zfd];exact ⟨_,rfl,by simp;exact λq=>by have:=(Qp _).2 q.al;rw[hg0] at this;cases this⟩
 have hg:ckF m.al=true:=by simpa using hg0
 have g:=(Qp _).1 hg;have hb:=h.bal g;obtain ⟨b2,e2,q2⟩:=p_usgs m h;obtain ⟨b3,e3,q3⟩:=UN m h g;obtain ⟨b4,e4,q4⟩:=p_susp m h;obtain ⟨b5,e5,q5⟩:=p_rejs m h;obtain ⟨b6,e6,q6⟩:=UK hb;rw[hg,e2,e3,e4,e5,JQ m hb];rw[Ge (P:=λx:ai=>x.err=15∨x.err=13)] at q5;have hp:∀ x,x∈Ac m↔x∈n9 m:=λx=>(yF m).mem_iff
 have q3':b3=true↔((n9 m).Pairwise NS/\∀ r,r∈n9 m->(hasB m.al.seen r.source r.aF && Ds r.source r.aF)=true):=by
  rw[q3];constructor
  ·intro q;refine ⟨((yF m).pairwise_iff fun {a b}=>Ga).1 (NU.1 λk hk=>(q k hk).1),λr hr=>?_⟩;exact Ge (P:=λr:aa=>(hasB m.al.seen r.source r.aF && Ds r.source r.aF)=true) |>.1 (λk hk=>(q k hk).2) r ((hp r).2 hr)
  ·rintro ⟨q,q'⟩ k hk;exact ⟨NU.2 (((yF m).pairwise_iff fun {a b}=>Ga).2 q) k hk,q' _ ((hp _).1 (kB hk))⟩
 have hsus:(∀ k,k<m.aH.length->(nth m.aH k).part=0/\da (nth m.aH k)=0)↔∀ r,r∈m.aH->r.part=0/\da r=0:=Ge (P:=λr:aa=>r.part=0/\da r=0);rw[hsus] at q4;have fin:(b2=true/\b3=true/\b4=false/\b5=false/\b6=true)↔lN m:=by
  rw[q2,q3',q4,q5,q6];constructor
  ·rintro ⟨p1,⟨p2,p3⟩,p4,p5,p6⟩;refine ⟨g,λk hk=>(p1 k hk).1,λr hr=>(p4 r hr).1,p5,λr hr=>?_,p3,p2,p6⟩;unfold n9 at hr;rcases zbc.1 hr with hr|hr
   ·rcases zbc.1 hr with hr|hr
    ·obtain ⟨u,hu,rfl⟩:=zcy.1 hr;exact Ge (P:=λu:aA=>da (rT u)=0) |>.1 (λk hk=>(p1 k hk).2) u hu
    ·exact (p4 r hr).2
   ·exact (g.T6.ok r hr).1
  ·intro q;refine ⟨λk hk=>⟨q.usg k hk,q.valid _ ?_⟩,⟨q.uniq,q.seen⟩,λr hr=>⟨q.WN r hr,q.valid _ ?_⟩,q.rej,q.bal⟩
   ·unfold n9;exact zca _ (zca _ (zcd (kB hk)))
   ·unfold n9;exact zca _ (zdw _ hr)
 rw[←fin];simp only[zci,zcm,cG,zby,zac];cases b2 with
 | false=>simp
 | true =>
  cases b3 with
  | false=>simp
  | true =>
   cases b4 with
   | true=>simp
   | false =>
    cases b5 with
    | true=>simp
    | false =>
     simp only[zci,zcm,zby,zgd,zaz,zbw,zac];refine ⟨b6,e6,by simp⟩
theorem few22 (l:O aa):∃ b,xg l=some b/\(b=true->l.length<=30/\∀ r,r∈l->Sm r):=by
 unfold xg;obtain ⟨b,h1,h2⟩:=uT (step:=λi:Int=>pq l i) (λb=>b=true->l.length<=30/\∀ r,r∈l->Sm r) (λi:Int=>0<=i/\i<=31/\i<=(l.length:Int)/\∀ r,r∈l.take i.toNat->Sm r) (λi=>(31-i).toNat) (λi hI=>by
  obtain ⟨h0,h1,h2,h3⟩:=hI;show (∃ r,pq l i=_/\_)∨∃ s',pq l i=_/\_;unfold pq;by_cases h:i<(l.length:Int)/\i<31
  ·rw[zab (by simp [h]),af (by omega),af (by omega)];by_cases hs:Sm (nth l i.toNat)
   ·have wS:=hs;unfold Sm at wS;rw[zaa (by simp;omega),af (by omega)];refine .inr ⟨i+1,rfl,⟨by omega,by omega,by omega,?_⟩,by omega⟩;rw[show (i+1).toNat=i.toNat+1 from by omega,ta (by omega)];intro r hr;rcases zbc.1 hr with hr|hr
    ·exact h3 r hr
    ·simp at hr;subst hr;exact hs
   ·have wS:=hs;unfold Sm at wS;rw[zab (by simp;omega)];exact .inl ⟨_,rfl,by simp⟩
  ·rw[zaa (by simp;omega)];unfold rA;refine .inl ⟨_,rfl,λhb=>?_⟩;simp at hb;have:i=l.length:=by omega
   refine ⟨by omega,λr hr=>h3 r ?_⟩;rw[zbz (by omega)];exact hr) (s:=0) ⟨by omega,by omega,by omega,by simp⟩ (by omega)
 exact ⟨b,h1,h2⟩
theorem bN.uO (b:bN):et b.bM b.bM=true:=by simp [bN.bM,et,N8]
def ky (r:aa):Int×Int:=(r.source,r.aF)
theorem NY {l:O aa}:l.Pairwise NS↔(l.map ky).Nodup:=by
 rw[List.Nodup,List.pairwise_map];constructor
 ·intro h;exact h.imp fun {a b} q e=>q (by unfold ky at e;simpa using e)
 ·intro h;exact h.imp fun {a b} q e=>q (by unfold ky;rw[e.1,e.2])
def o9 {α:Type} (a b:O α):Prop:=∃ z,(a++z).Perm b
theorem o9.refl {α:Type} (a:O α):o9 a a:=⟨[],by simp⟩
theorem o9.of {α:Type} {a b:O α} (h:a.Perm b):o9 a b:=⟨[],by simpa using h⟩
theorem o9.trans {α:Type} {a b c:O α}:o9 a b->o9 b c->o9 a c:=λ⟨z,h⟩ ⟨y,k⟩=>⟨z++y,by
 rw[←zar];exact (h.append_right y).trans k⟩
theorem o9.append {α:Type} {a b c d:O α}:o9 a b->o9 c d->o9 (a++c) (b++d):=λ⟨z,h⟩ ⟨y,k⟩=>⟨z++y,by
 refine List.Perm.trans ?_ (h.append k);rw[zar,zar];refine List.Perm.append_left a ?_;rw[←zar,←zar];exact zff.append_right y⟩
theorem o9.nodup {α:Type} {a b:O α}:o9 a b->b.Nodup->a.Nodup:=λ⟨z,h⟩ k=>(zdl.1 (h.nodup_iff.2 k)).1
theorem o9.mem {α:Type} {a b:O α} {x:α}:o9 a b->x∈a->x∈b:=λ⟨z,h⟩ k=>h.mem_iff.1 (zca _ k)
def R4 (w:aa):Prop:=da w=0/\w.part=0
theorem H8 {l:O aa} {w:aa} (h:im l=some w):R4 w/\∃ q t,l=q::t/\ky w=ky q:=by
 cases l with
 | nil=>simp [im] at h
 | cons q t =>
  rw[show im (q::t)=(if ((q::t).all λp=>decide (p.part≠0/\da p=0/\Comm p q))=true/\da (IX q (Ce (q::t)))=0 then some (IX q (Ce (q::t))) else none) from rfl] at h;split at h
  ·rename_i hc;cases h;exact ⟨⟨hc.2,rfl⟩,q,t,rfl,rfl⟩
  ·cases h
theorem UO {l:O aa} {w:aa} (h:kq l=some w):R4 w/\∃ q t,l=q::t/\ky w=ky q:=by
 unfold kq at h;split at h
 ·exact H8 h
 ·cases h
theorem UP {q:aa} (h:da q=0):R4 (tZ q):=by
 refine ⟨?_,rfl⟩;unfold tZ IX;unfold da at h ⊢;simp only;split at h;· cases h
 split at h;· cases h
 split at h;· cases h
 split at h;· cases h
 split at h;· cases h
 split at h;· cases h
 split at h;· cases h
 split at h;· cases h
 split at h;· cases h
 split at h;· cases h
 rename_i q1 q2 q3 q4 q5 q6 q7 q8 q9 q10;rw[zaa q1,zaa q2,zaa q3,zaa q4,zaa q5,zaa q6,zaa (by omega),zaa (by simp),zaa q9,zaa q10]
theorem JR (x:aa):∀ (m:Nat) (now:O aa),(∀ w,w∈(fv m now x).1->R4 w)/\o9 (((fv m now x).1++(fv m now x).2).map ky) (now.map ky)
 | 0,now=>⟨λw h=>by simp [fv] at h,.refl _⟩
 | m+1,now=>by
  unfold fv;cases hc:kq (kM true x 1 now).1 with
  | none=>exact ⟨λw h=>by simp at h,.refl _⟩
  | some w =>
   obtain ⟨MD,ih2⟩:=JR x m (kM true x 1 now).2;obtain ⟨hw,q,t,e1,e2⟩:=UO hc;refine ⟨λy hy=>?_,?_⟩
   ·rcases zan.1 hy with rfl|hy
    ·exact hw
    ·exact MD y hy
   ·have hp:=(zV true x 1 now).map ky;rw[zce] at hp;refine o9.trans ?_ (.of hp);simp only[List.cons_append,zao];have:o9 [ky w] ((kM true x 1 now).1.map ky):=by rw[e1,zao,e2];exact ⟨t.map ky,.refl _⟩
    exact this.append ih2
theorem R5 (now:O aa) (r:aa) (hr:da r=0):(∀ w,w∈(iN now r).1->R4 w)/\o9 (((iN now r).1++(iN now r).2).map ky) ((r::now).map ky):=by
 unfold iN;split
 ·rename_i h0;exact ⟨λw h=>by rw[zcc.1 h];exact ⟨hr,h0⟩,.refl _⟩
 ·obtain ⟨h1,h2⟩:=JR r (now.length+2) (mK now r);exact ⟨h1,h2.trans (.of ((xw now r).map ky))⟩
theorem EI:∀ (l now:O aa),(∀ r,r∈l->da r=0)->(∀ w,w∈(eP now l).1->R4 w)/\o9 (((eP now l).1++(eP now l).2).map ky) ((now++l).map ky)
 | [],now,_=>⟨λw h=>by simp [eP] at h,by simpa [eP] using o9.refl _⟩
 | r::l,now,h=>by
  obtain ⟨a1,a2⟩:=R5 now r (h r (zaj ..));obtain ⟨b1,b2⟩:=EI l (iN now r).2 λz hz=>h z (zai _ hz)
  unfold eP;refine ⟨λw hw=>?_,?_⟩
  ·rcases zbc.1 hw with hw|hw
   ·exact a1 w hw
   ·exact b1 w hw
  ·simp only;rw[zar,zce];refine ((o9.refl ((iN now r).1.map ky)).append b2).trans ?_;rw[zce,←zar,←zce];refine (a2.append (o9.refl (l.map ky))).trans (.of ?_);rw[←zce];refine List.Perm.map ky ?_;rw[List.cons_append];exact zfk.symm
theorem UQ (l:O aa) (h:∀ r,r∈l->da r=0):(∀ w,w∈Dl l->R4 w)/\o9 ((Dl l).map ky) (l.map ky):=by
 cases l with
 | nil=>exact ⟨λw h=>by simp [Dl] at h,.refl _⟩
 | cons x t =>
  rw[AF];generalize hp:er 0 (sI (x::t) (gF false x 1 0 (x::t)) (gF false x 1 0 (x::t)).length) (x::t)=p;have XI:(p.1++p.2).Perm (x::t):=by rw[←hp];exact sH _ _ _
  have qY:∀ r,r∈p.2->da r=0:=λr hr=>h r (XI.mem_iff.1 (zdw _ hr))
  refine ⟨λw hw=>?_,?_⟩
  ·rcases zbc.1 hw with hw|hw
   ·cases hq:im p.1 with
    | none=>rw[hq] at hw;simp at hw
    | some v =>
     rw[hq] at hw;simp at hw;subst hw;exact (H8 hq).1
   ·obtain ⟨q,hq,rfl⟩:=zcy.1 hw;exact UP (qY q hq)
  ·refine o9.trans ?_ (.of (XI.map ky));rw[zce,zce,List.map_map];refine o9.append ?_ (o9.refl _);cases hq:im p.1 with
   | none=>exact ⟨p.1.map ky,by simp⟩
   | some v =>
    obtain ⟨_,q,t',e1,e2⟩:=H8 hq;rw[e1,zao,←e2];exact ⟨t'.map ky,.refl _⟩
theorem Ia (b:Int):∀ (m:Nat) (l:O aa),(∀ r,r∈l->da r=0)->(∀ w,w∈(jb b m l).1->R4 w)/\o9 (((jb b m l).1++(jb b m l).2).map ky) (l.map ky)
 | 0,l,_=>⟨λw h=>by simp [jb] at h,⟨l.map ky,by simp [jb]⟩⟩
 | m+1,[],_=>⟨λw h=>by simp [jb] at h,⟨[],by simp [jb]⟩⟩
 | m+1,x::l,h=>by
  have Vb:=mG x (x::l);have w8:∀ r,r∈dy x (x::l)->da r=0:=λr hr=>h r (by rw[←Vb];exact zca _ hr);have Vc:∀ r,r∈gf x (x::l)->da r=0:=λr hr=>h r (by rw[←Vb];exact zdw _ hr);obtain ⟨i1,i2⟩:=Ia b m (gf x (x::l)) Vc;obtain ⟨e1,e2⟩:=UQ (dy x (x::l)) w8;unfold jb;have hl:(x::l).map ky=(dy x (x::l)).map ky++(gf x (x::l)).map ky:=by rw[←zce,Vb]
  split
  ·refine ⟨i1,?_⟩;rw[hl];refine o9.trans ?_ ((o9.refl _).append i2);simp only[zce];refine .of ?_;rw[←zar,←zar];exact zff.append_right _
  ·refine ⟨λw hw=>?_,?_⟩
   ·rcases zbc.1 hw with hw|hw
    ·exact e1 w hw
    ·exact i1 w hw
   ·rw[hl];simp only;rw[zar,zce];exact e2.append i2
def uF (bS:O Event) (r:aa) (id:Int):aA×Int:=FM (kr ((NJ r.start bS w0).getD w0)) r id
theorem p_uF (bS:O Event) (r:aa) (id:Int) (hl:bS.length<=5000) (hs:Sm r):gU bS r id=some (uF bS r id):=by
 obtain ⟨w,h1,h2⟩:=Uz bS r id hl hs;unfold uF;rw[h1];exact h2
theorem XJ (bS:O Event) (r:aa) (id:Int) (hl:bS.length<=40) (hv:VC b0 0 bS) (hs:Sm r):oL bS r id=some (uF bS r id):=by
 obtain ⟨w,b,q1,q2,q3⟩:=QO bS r.start hl hv;unfold uF;rw[q1];exact UH bS r id (by omega) q2 q3 (by omega) hs
def uZ (bS:List Event):List aa->List aA->List aa->List aA×List aa
 | [],us,ws=>(us,ws)
 | r::l,us,ws=>if (uF bS r ((us.length:Int)+1)).2=0 then uZ bS l (us++[(uF bS r ((us.length:Int)+1)).1]) ws else uZ bS l us (ws++[r])
theorem p_pl (bS:O Event) (hl:bS.length<=5000) (l:O aa) (us:O aA) (ws:O aa) (hs:∀ r,r∈l->Sm r) (h1:l.length<=10000) (h2:us.length<=10000) (h3:ws.length<=10000) (a:O Range) (b:O aa) (c:O Head) (d:O ai) :
  gB l a b c bS us ws d=some (uZ bS l us ws)/\fj l a b c d bS us ws=some (uZ bS l us ws)/\fq l a b c d bS us ws=some (uZ bS l us ws):=by
 refine ⟨?_,?_,?_⟩
 ·unfold gB;refine bm (step:=λs:O aA×O aa×Int=>dC l bS s.1 s.2.1 s.2.2) l (λs=>s.2.2) (λs t=>some (uZ bS t s.1 s.2.1)) (λs t=>(s.1.length+t.length<=20000/\s.2.1.length+t.length<=20000)/\∀ r,r∈t->Sm r) (by omega) ?_ ?_ (s:=(us,ws,0)) rfl ⟨⟨by simp only;omega,by simp only;omega⟩,hs⟩
  ·rintro ⟨u,w,i⟩ _ h4;simp only at h4;refine ⟨_,?_,rfl⟩;unfold dC;rw[zaa (by simp only[zak];omega)];rfl
  ·rintro ⟨u,w,i⟩ r t ⟨⟨h4,h5⟩,h6⟩ h7 h8 h9 K1;simp only at h4 h5 h7 h8 h9 K1;rw[zad] at h4 h5;unfold dC;simp only;rw[zab (by simpa using h8),af ⟨h7,h8⟩,af ⟨by omega,by omega⟩,h9,p_uF bS r _ hl (h6 r (zaj ..)),zac];by_cases he:(uF bS r ((u.length:Int)+1)).2=0
   ·rw[zab (by simpa using he),af (by simp only[zal];omega),af ⟨by omega,by omega⟩];refine .inr ⟨(u++[(uF bS r ((u.length:Int)+1)).1],w,i+1),rfl,⟨⟨by simp only[zah,zal];omega,by simp only;omega⟩,λz hz=>h6 z (zai _ hz)⟩,rfl,?_⟩;simp only;rw[uZ,zab he]
   ·rw[zaa (by simpa using he),af (by simp only[zal];omega),af ⟨by omega,by omega⟩];refine .inr ⟨(u,w++[r],i+1),rfl,⟨⟨by simp only;omega,by simp only[zah,zal];omega⟩,λz hz=>h6 z (zai _ hz)⟩,rfl,?_⟩;simp only;rw[uZ,zaa he]
 ·unfold fj;refine bm (step:=λs:O aA×Int×O aa=>dd l bS s.1 s.2.1 s.2.2) l (λs=>s.2.1) (λs t=>some (uZ bS t s.1 s.2.2)) (λs t=>(s.1.length+t.length<=20000/\s.2.2.length+t.length<=20000)/\∀ r,r∈t->Sm r) (by omega) ?_ ?_ (s:=(us,0,ws)) rfl ⟨⟨by simp only;omega,by simp only;omega⟩,hs⟩
  ·rintro ⟨u,i,w⟩ _ h4;simp only at h4;refine ⟨_,?_,rfl⟩;unfold dd;rw[zaa (by simp only[zak];omega)];rfl
  ·rintro ⟨u,i,w⟩ r t ⟨⟨h4,h5⟩,h6⟩ h7 h8 h9 K1;simp only at h4 h5 h7 h8 h9 K1;rw[zad] at h4 h5;unfold dd;simp only;rw[zab (by simpa using h8),af ⟨h7,h8⟩,af ⟨by omega,by omega⟩,h9,p_uF bS r _ hl (h6 r (zaj ..)),zac];by_cases he:(uF bS r ((u.length:Int)+1)).2=0
   ·rw[zab (by simpa using he),af (by simp only[zal];omega),af ⟨by omega,by omega⟩];refine .inr ⟨(u++[(uF bS r ((u.length:Int)+1)).1],i+1,w),rfl,⟨⟨by simp only[zah,zal];omega,by simp only;omega⟩,λz hz=>h6 z (zai _ hz)⟩,rfl,?_⟩;simp only;rw[uZ,zab he]
   ·rw[zaa (by simpa using he),af (by simp only[zal];omega),af ⟨by omega,by omega⟩];refine .inr ⟨(u,i+1,w++[r]),rfl,⟨⟨by simp only;omega,by simp only[zah,zal];omega⟩,λz hz=>h6 z (zai _ hz)⟩,rfl,?_⟩;simp only;rw[uZ,zaa he]
 ·unfold fq;refine bm (step:=λs:O aA×O aa×Int=>de l bS s.1 s.2.1 s.2.2) l (λs=>s.2.2) (λs t=>some (uZ bS t s.1 s.2.1)) (λs t=>(s.1.length+t.length<=20000/\s.2.1.length+t.length<=20000)/\∀ r,r∈t->Sm r) (by omega) ?_ ?_ (s:=(us,ws,0)) rfl ⟨⟨by simp only;omega,by simp only;omega⟩,hs⟩
  ·rintro ⟨u,w,i⟩ _ h4;simp only at h4;refine ⟨_,?_,rfl⟩;unfold de;rw[zaa (by simp only[zak];omega)];rfl
  ·rintro ⟨u,w,i⟩ r t ⟨⟨h4,h5⟩,h6⟩ h7 h8 h9 K1;simp only at h4 h5 h7 h8 h9 K1;rw[zad] at h4 h5;unfold de;simp only;rw[zab (by simpa using h8),af ⟨h7,h8⟩,af ⟨by omega,by omega⟩,h9,p_uF bS r _ hl (h6 r (zaj ..)),zac];by_cases he:(uF bS r ((u.length:Int)+1)).2=0
   ·rw[zab (by simpa using he),af (by simp only[zal];omega),af ⟨by omega,by omega⟩];refine .inr ⟨(u++[(uF bS r ((u.length:Int)+1)).1],w,i+1),rfl,⟨⟨by simp only[zah,zal];omega,by simp only;omega⟩,λz hz=>h6 z (zai _ hz)⟩,rfl,?_⟩;simp only;rw[uZ,zab he]
   ·rw[zaa (by simpa using he),af (by simp only[zal];omega),af ⟨by omega,by omega⟩];refine .inr ⟨(u,w++[r],i+1),rfl,⟨⟨by simp only;omega,by simp only[zah,zal];omega⟩,λz hz=>h6 z (zai _ hz)⟩,rfl,?_⟩;simp only;rw[uZ,zaa he]
theorem AK (bS:O Event):∀ (l:O aa) (us:O aA) (ws:O aa),(uZ bS l us ws).1.length+(uZ bS l us ws).2.length=us.length+ws.length+l.length
 | [],us,ws=>by simp [uZ]
 | r::l,us,ws=>by
  unfold uZ;split
  ·rw[AK bS l];simp;omega
  ·rw[AK bS l];simp;omega
theorem UR (bS:O Event) (hl:bS.length<=40) (hv:VC b0 0 bS) (m:ah) (l:O aa) (hs:∀ r,r∈l->Sm r) (h1:l.length<=10000) (h2:m.usages.length<=10000) (h3:m.aH.length<=10000) (h4:m.br.length<=10000) :
  qP bS m l=some ⟨m.al,(uZ bS l m.usages m.aH).1,(uZ bS l m.usages m.aH).2,m.br⟩/\tw bS m l=some (m.al.seen,m.al.open_,m.al.aP,(uZ bS l m.usages m.aH).1,(uZ bS l m.usages m.aH).2,m.br):=by
 refine ⟨?_,?_⟩
 ·unfold qP;simp only[zbt,zas,zbu];rw[af (by omega),af (by omega)];refine bm (step:=λs:O aA×O aa×Int=>oN bS m l s.1 s.2.1 s.2.2) l (λs=>s.2.2) (λs t=>some (⟨m.al,(uZ bS t s.1 s.2.1).1,(uZ bS t s.1 s.2.1).2,m.br⟩:ah)) (λs t=>(s.1.length+t.length<=20000/\s.2.1.length+t.length<=20000)/\∀ r,r∈t->Sm r) (by omega) ?_ ?_ (s:=(m.usages,m.aH,0)) rfl ⟨⟨by simp only;omega,by simp only;omega⟩,hs⟩
  ·rintro ⟨u,w,i⟩ _ h4;simp only at h4;refine ⟨_,?_,rfl⟩;unfold oN oM;rw[zaa (by simp only[zak];omega),af (by omega)];rfl
  ·rintro ⟨u,w,i⟩ r t ⟨⟨h4,h5⟩,h6⟩ h7 h8 h9 K1;simp only at h4 h5 h7 h8 h9 K1;rw[zad] at h4 h5;unfold oN;simp only;rw[zab (by simpa using h8),af ⟨h7,h8⟩,af ⟨by omega,by omega⟩,h9,XJ bS r _ hl hv (h6 r (zaj ..)),zac];by_cases he:(uF bS r ((u.length:Int)+1)).2=0
   ·rw[zab (by simpa using he),af (by simp only[zal];omega),af ⟨by omega,by omega⟩];refine .inr ⟨(u++[(uF bS r ((u.length:Int)+1)).1],w,i+1),rfl,⟨⟨by simp only[zah,zal];omega,by simp only;omega⟩,λz hz=>h6 z (zai _ hz)⟩,rfl,?_⟩;simp only;rw[uZ,zab he]
   ·rw[zaa (by simpa using he),af ⟨h7,h8⟩,af (by simp only[zal];omega),af ⟨by omega,by omega⟩];refine .inr ⟨(u,w++[r],i+1),rfl,⟨⟨by simp only;omega,by simp only[zah,zal];omega⟩,λz hz=>h6 z (zai _ hz)⟩,rfl,?_⟩;simp only;rw[uZ,zaa he]
 ·unfold tw;simp only[zbt,zas,zbu];rw[af (by omega),af (by omega)];refine bm (step:=λs:O aA×O aa×Int=>oX bS m l s.1 s.2.1 s.2.2) l (λs=>s.2.2) (λs t=>some (m.al.seen,m.al.open_,m.al.aP,(uZ bS t s.1 s.2.1).1,(uZ bS t s.1 s.2.1).2,m.br)) (λs t=>(s.1.length+t.length<=20000/\s.2.1.length+t.length<=20000)/\∀ r,r∈t->Sm r) (by omega) ?_ ?_ (s:=(m.usages,m.aH,0)) rfl ⟨⟨by simp only;omega,by simp only;omega⟩,hs⟩
  ·rintro ⟨u,w,i⟩ _ h4;simp only at h4;refine ⟨_,?_,rfl⟩;unfold oX oW;rw[zaa (by simp only[zak];omega),af (by simp only[zas];omega)];rfl
  ·rintro ⟨u,w,i⟩ r t ⟨⟨h4,h5⟩,h6⟩ h7 h8 h9 K1;simp only at h4 h5 h7 h8 h9 K1;rw[zad] at h4 h5;unfold oX;simp only;rw[zab (by simpa using h8),af ⟨h7,h8⟩,af ⟨by omega,by omega⟩,h9,XJ bS r _ hl hv (h6 r (zaj ..)),zac];by_cases he:(uF bS r ((u.length:Int)+1)).2=0
   ·rw[zab (by simpa using he),af (by simp only[zal];omega),af ⟨by omega,by omega⟩];refine .inr ⟨(u++[(uF bS r ((u.length:Int)+1)).1],w,i+1),rfl,⟨⟨by simp only[zah,zal];omega,by simp only;omega⟩,λz hz=>h6 z (zai _ hz)⟩,rfl,?_⟩;simp only;rw[uZ,zab he]
   ·rw[zaa (by simpa using he),af ⟨h7,h8⟩,af (by simp only[zal];omega),af ⟨by omega,by omega⟩];refine .inr ⟨(u,w++[r],i+1),rfl,⟨⟨by simp only;omega,by simp only[zah,zal];omega⟩,λz hz=>h6 z (zai _ hz)⟩,rfl,?_⟩;simp only;rw[uZ,zaa he]
theorem Ln (v:aG) (b:Batch) (w:bU) (h:Qx v b):∀ r,r∈(oa v b w).2.1->R4 r:=λr hr=>by
 unfold oa at hr;split at hr
 ·rename_i hc;split at hr
  ·refine (EI _ _ λx hx=>(Dy hc).2.2.2.2 x (HW hx)).1 r hr
  ·simp at hr
 ·simp at hr
structure US (m:ah):Prop where
 qW:o7 m.al
 seen:m.al.seen.length<=600
 aP:m.al.aP.length<=600
 opens:m.al.open_.length<=600
 l1:m.usages.length<=3000
 l2:m.aH.length<=3000
 l3:m.br.length<=3000
 s:∀ r,r∈m.aH->Sm r
theorem US.smA {m:ah} (h:US m) {b:Batch} (h1:b.records.length<=100) (h2:∀ r,r∈b.records->Sm r):Qx m.al b:=⟨h.qW,h.seen,h.aP,h.opens,h1,h2⟩
def Of:ah:=⟨(⟨([]:O Range),([]:O aa),([]:O Head)⟩:aG),([]:O aA),([]:O aa),([]:O ai)⟩
def xD (bS:O Event) (m:ah) (b:Batch) (w:bU):ah×Int :=
 if (oa m.al b w).2.2.2=0 then (⟨(oa m.al b w).1,(uZ bS (oa m.al b w).2.1 m.usages m.aH).1,(uZ bS (oa m.al b w).2.1 m.usages m.aH).2,m.br++(oa m.al b w).2.2.1⟩,0) else (Of,(oa m.al b w).2.2.2)
def I1 (bS:O Event) (m:ah):ah:=⟨m.al,(uZ bS m.aH m.usages []).1,(uZ bS m.aH m.usages []).2,m.br⟩
def I2 (bS:O Event) (m:ah) (t:Int):ah:=⟨(Ch m.al t).1,(uZ bS (Ch m.al t).2 m.usages m.aH).1,(uZ bS (Ch m.al t).2 m.usages m.aH).2,m.br⟩
theorem QR (v:aG) (t:Int) (h:o7 v):∀ r,r∈(Ch v t).2->R4 r:=λr hr=>(Ia t _ _ λx hx=>(h.T6.ok x hx).1).1 r hr
theorem Gg (v:aG) (t:Int):(Ch v t).1.open_.length+(Ch v t).2.length<=v.open_.length:=by
 have:=Nd t v.open_.length v.open_;unfold Ch;simp only;omega
theorem Pu (bS:O Event) (m:ah) (h:US m):my bS m=some (m.al.seen,m.al.open_,m.al.aP,m.usages,m.br,bS,m.aH)/\hU bS m=some (m.al.seen,m.al.open_,m.al.aP,m.usages,m.br,bS,m.aH):=by
 have h1:=h.seen;have h2:=h.aP;have h3:=h.opens;have h4:=h.l1;have h5:=h.l3;unfold my hU gK dv kW uy p7;rw[af (by omega),af (by omega),af (by omega),af (by omega),af (by omega)];exact ⟨rfl,rfl⟩
theorem p_Feed (bS:O Event) (hl:bS.length<=5000) (m:ah) (b:Batch) (w:bU) (h:US m) (h1:b.records.length<=100) (h2:∀ r,r∈b.records->Sm r):iK bS m b w=some (xD bS m b w):=by
 have hA:=h.smA h1 h2;have ha:=Nu m.al b w hA;have hw:=Ln m.al b w hA;have k1:=h.l1;have k2:=h.l2;have k3:=h.l3;unfold iK xD;rw[Uo _ _ _ hA,zac];by_cases he:(oa m.al b w).2.2.2=0
 ·rw[zaa (by simpa using he),zab he,(Pu bS m h).1,zac];unfold dv;simp only;rw[af (by omega),zac,af (by omega),(p_pl bS hl _ _ _ (λr hr=>Ay (hw r hr).1) (by omega) (by omega) (by omega) _ _ _ _).1,zac]
 ·rw[zab (by simpa using he),zaa he];rfl
theorem WR (bS:O Event) (hl:bS.length<=5000) (m:ah) (h:US m):jj bS m=some (I1 bS m):=by
 have k1:=h.l1;have k2:=h.l2;have k3:=h.l3;unfold jj I1;rw[(Pu bS m h).2,zac];simp only;rw[(p_pl bS hl _ _ _ h.s (by omega) (by omega) (by simp) _ _ _ _).2.1,zac]
theorem UT (bS:O Event) (hl:bS.length<=5000) (m:ah) (t:Int) (h:US m):lr bS m t=some (I2 bS m t):=by
 have k1:=h.l1;have k2:=h.l2;have k3:=h.l3;have hw:=QR m.al t h.qW;have hc:=Gg m.al t;have ho:=h.opens;unfold lr I2;rw[(Pu bS m h).2,zac];unfold dv;simp only;rw[af (by omega),zac,Wx _ _ h.qW h.seen h.opens h.aP,zac,(p_pl bS hl _ _ _ (λr hr=>Ay (hw r hr).1) (by omega) (by omega) (by omega) _ _ _ _).2.2,zac]
section doc
variable (bS:O Event) (hl:bS.length<=40) (hv:VC b0 0 bS)
include hl hv
theorem WS (m:ah) (b:Batch) (w:bU) (h:US m) (h1:b.records.length<=100) (h2:∀ r,r∈b.records->Sm r):vt bS m b w=some (xD bS m b w):=by
 have hA:=h.smA h1 h2;have ha:=Nu m.al b w hA;have hw:=Ln m.al b w hA;have k1:=h.l1;have k2:=h.l2;have k3:=h.l3;unfold vt xD;rw[RV _ _ _ hA,zac];by_cases he:(oa m.al b w).2.2.2=0
 ·rw[zaa (by simpa using he),zab he,(UR bS hl hv m _ (λr hr=>Ay (hw r hr).1) (by omega) (by omega) (by omega) (by omega)).2,zac];simp only;rw[af (by omega)]
 ·rw[zab (by simpa using he),zaa he];rfl
theorem UU (m:ah) (h:US m):tp bS m=some (I1 bS m):=by
 have k1:=h.l1;have k2:=h.l2;have k3:=h.l3;unfold tp I1;rw[(UR bS hl hv ⟨m.al,m.usages,[],m.br⟩ _ h.s (by omega) (by simp only;omega) (by simp) (by simp only;omega)).1];rfl
theorem R6 (m:ah) (t:Int) (h:US m):tu bS m t=some (I2 bS m t):=by
 have k1:=h.l1;have k2:=h.l2;have k3:=h.l3;have hw:=QR m.al t h.qW;have hc:=Gg m.al t;have ho:=h.opens;unfold tu I2;rw[Ut _ _ h.qW h.seen h.opens h.aP,zac,(UR bS hl hv m _ (λr hr=>Ay (hw r hr).1) (by omega) (by omega) (by omega) (by omega)).1,zac]
end doc
theorem UW (a:O aA) (hl:a.length<=10000):vz a a=some true:=by
 unfold vz;rw[zaa (by simp),vJ a (λ_=>true) true true (by omega) (λi h0 h1=>?_) (λi hi=>?_)]
 ·simp
 ·unfold sZ;rw[zab (by simpa using h1),af (by omega),af (by omega),zaa (by rw[UA];simp),af (by omega)];rfl
 ·unfold sZ;rw[zaa (by simp;omega)]
theorem FO (a:O ai) (hl:a.length<=10000):lx a a=some true:=by
 unfold lx;rw[zaa (by simp),vJ a (λ_=>true) true true (by omega) (λi h0 h1=>?_) (λi hi=>?_)]
 ·simp
 ·unfold lv;rw[zab (by simpa using h1),af (by omega),af (by omega),zaa (by rw[ai.uO];simp),af (by omega)];rfl
 ·unfold lv;rw[zaa (by simp;omega)]
theorem UX (m:ah) (h1:m.al.seen.length<=10000) (h2:m.al.open_.length<=10000) (h3:m.al.aP.length<=10000) (h4:m.usages.length<=10000) (h5:m.aH.length<=10000) (h6:m.br.length<=10000):vA m m=some true:=by
 unfold vA;rw[T8 _ h1 h2 h3,UW _ h4,Nc _ h5,FO _ h6];rfl
def R7 (us:O aA):Prop:=∀ k,k<us.length->(nth us k).id=(k:Int)+1/\(1<=(nth us k).az/\(nth us k).az<=9999)/\(1<=(nth us k).sub/\(nth us k).sub<=9999)
theorem Lo {α:Type} [Inhabited α] {a b:O α} {k:Nat} (h:k<a.length):nth (a++b) k=nth a k:=by
 rw[og h,og (by rw[zah];omega),List.getElem_append_left h]
theorem NZ {α:Type} [Inhabited α] {a:O α} {x:α}:nth (a++[x]) a.length=x:=by
 rw[og (by simp)];simp
theorem R7.snoc {us:O aA} (h:R7 us) {u:aA} (h1:u.id=(us.length:Int)+1) (h2:1<=u.az/\u.az<=9999) (h3:1<=u.sub/\u.sub<=9999):R7 (us++[u]):=λk hk=>by
 rw[zah,zal] at hk;by_cases e:k=us.length
 ·subst e;rw[NZ];exact ⟨h1,h2,h3⟩
 ·rw[Lo (by omega)];exact h k (by omega)
theorem uF_ok (bS:O Event) (hl:bS.length<=40) (hv:VC b0 0 bS) (r:aa) (id:Int) (hz:(uF bS r id).2=0) (hw:R4 r):(uF bS r id).1.id=id/\(1<=(uF bS r id).1.az/\(uF bS r id).1.az<=9999)/\(1<=(uF bS r id).1.sub/\(uF bS r id).1.sub<=9999)/\rT (uF bS r id).1=r:=by
 obtain ⟨w,b,q1,q2,q3⟩:=QO bS r.start hl hv;obtain ⟨e0,p0⟩:=hw;obtain ⟨c0,l0⟩:=R2 r e0 p0;unfold uF at hz ⊢;rw[q1] at hz ⊢;simp only[zcj] at hz ⊢;have own:=q3.own (A5 r);unfold FM at hz;rw[zaa (show ¬(da r≠0) from λk=>k e0),zaa (show ¬(r.part≠0) from λk=>k p0)] at hz;cases hf:FN (A5 r) (kr w) with
 | none =>
  rw[hf] at own;simp only at own;rw[own] at hz;simp at hz
 | some s =>
  have hm:=List.mem_of_find?_eq_some hf;rw[hf] at own;simp only at own;rw[own] at hz;simp only[Bool.true_eq_false,zbw] at hz;have hns:¬(s.bY=true/\r.bL=false):=λq=>by rw[zab q] at hz;simp at hz
  have hu:FM (kr w) r id=(⟨id,r.kind,s.az,s.id,r.a,r.b,r.start,r.cX,r.dh,r.bL,r.source,r.aF⟩,0):=by
   unfold FM;rw[zaa (show ¬(da r≠0) from λk=>k e0),zaa (show ¬(r.part≠0) from λk=>k p0),own];simp only[Bool.true_eq_false,zbw];rw[zaa hns]
  rw[hu];have hs:=(q3.Ab hm).1;refine ⟨rfl,q3.acc s hs,q3.rng _ (zcd hs),?_⟩;obtain ⟨x1,x2,x3,x4,x5,x6,x7,x8,x9,x10,x11,x12⟩:=r;simp only at c0 l0 p0;subst c0;subst l0;subst p0;rfl
theorem Gh (bS:O Event) (hl:bS.length<=40) (hv:VC b0 0 bS):∀ (l:O aa) (us:O aA) (ws:O aa),(∀ r,r∈l->R4 r)->R7 us ->
  R7 (uZ bS l us ws).1/\((uZ bS l us ws).1.map rT++(uZ bS l us ws).2).Perm (us.map rT++ws++l)/\(∃ z,(uZ bS l us ws).1=us++z)/\(∀ r,r∈(uZ bS l us ws).2->r∈ws∨r∈l)
 | [],us,ws,_,hu=>⟨hu,by simp [uZ],⟨[],by simp [uZ]⟩,λr h=>.inl h⟩
 | r::l,us,ws,h,hu=>by
  have hr:=h r (zaj ..);have ht:=λz hz=>h z (zai _ hz)
  unfold uZ;by_cases he:(uF bS r ((us.length:Int)+1)).2=0
  ·rw[zab he];obtain ⟨o1,o2,o3,o4⟩:=uF_ok bS hl hv r _ he hr;obtain ⟨i1,i2,⟨z,i3⟩,i4⟩:=Gh bS hl hv l (us++[(uF bS r ((us.length:Int)+1)).1]) ws ht (hu.snoc o1 o2 o3);refine ⟨i1,i2.trans ?_,⟨(uF bS r ((us.length:Int)+1)).1::z,by rw[i3];simp⟩,λx hx=>(i4 x hx).imp id (zai _)⟩;rw[zce,List.map_singleton,o4,zar,zar,zar];refine List.Perm.append_left _ ?_;rw[zbr];exact (zfk).symm
  ·rw[zaa he];obtain ⟨i1,i2,⟨z,i3⟩,i4⟩:=Gh bS hl hv l us (ws++[r]) ht hu;refine ⟨i1,i2.trans ?_,⟨z,i3⟩,λx hx=>?_⟩
   ·rw[zar,zar,zar,zbr]
   ·rcases i4 x hx with q|q
    ·rcases zbc.1 q with q|q
     ·exact .inl q
     ·rw[zcc.1 q];exact .inr (zaj ..)
    ·exact .inr (zai _ q)
theorem N0 {s n f:Int} {l:O Range}:nO (sK s n f l)=nO l+(n-f+1):=by
 cases l with
 | nil=>simp [sK,nO]
 | cons r l =>
  rw[sK];by_cases h3:TR s n r
  ·rw[zab h3];unfold TR at h3;simp only[nO];omega
  ·rw[zaa h3];simp only[nO];omega
theorem N1 {s n:Int}:∀ (l:O Range),nO (lV s n l)=nO l+1
 | []=>by simp only[lV,nO];omega
 | r::l=>by
  rw[lV];by_cases hp:PL s n r
  ·rw[zab hp,N0];omega
  ·rw[zaa hp];by_cases h1:TL s n r
   ·rw[zab h1,N0];unfold TL at h1;simp only[nO];omega
   ·rw[zaa h1];simp only[nO,N1 l];omega
theorem Ib (w:bU):∀ (t:O aa) (l:O Range) (i:Int),nO (dP w l i t).1=nO l+((dP w l i t).2.1.length:Int)/\(dP w l i t).2.1.length+(dP w l i t).2.2.length=t.length/\(∀ x,x∈(dP w l i t).2.2->x.err=15∨x.err=13)
 | [],l,i=>by simp [dP]
 | r::t,l,i=>by
  by_cases hw:JJ w r
  ·by_cases hh:hasB l r.source r.aF=false
   ·obtain ⟨a1,a2,a3⟩:=Ib w t (lV r.source r.aF l) (i+1);simp only[dP,zab hw,zab hh,zad];rw[a1,N1];exact ⟨by omega,by omega,a3⟩
   ·obtain ⟨a1,a2,a3⟩:=Ib w t l (i+1);simp only[dP,zab hw,zaa hh,zad];refine ⟨a1,by omega,λx hx=>?_⟩;rcases zan.1 hx with rfl|hx
    ·exact .inr rfl
    ·exact a3 x hx
  ·obtain ⟨a1,a2,a3⟩:=Ib w t l (i+1);simp only[dP,zaa hw,zad];refine ⟨a1,by omega,λx hx=>?_⟩;rcases zan.1 hx with rfl|hx
   ·exact .inl rfl
   ·exact a3 x hx
theorem EJ (h:Head):∀ (l:O Head),vN (l++[h])=vN l+h.count
 | []=>by simp [vN]
 | x::l=>by
  rw[List.cons_append,vN,EJ h l,vN];omega
theorem xE (m:ah):NW (zg m)↔((m.usages.length:Int)+m.aH.length+m.al.open_.length<=nO m.al.seen/\vN m.al.aP=nO m.al.seen+m.br.length):=by
 unfold NW zg;simp only;omega
theorem Ic (bS:O Event) (hl:bS.length<=40) (hv:VC b0 0 bS) (v:aG) (l:O aa) (us:O aA) (ws:O aa) (rj:O ai) (gv:o7 v) (hu:R7 us) (hws:∀ r,r∈ws->r.part=0) (hw:∀ r,r∈l->R4 r) (hrj:∀ x,x∈rj->x.err=15∨x.err=13)
  (JV:∀ r,r∈us.map rT++ws->da r=0) (EX:((us.map rT++ws++l++v.open_).map ky).Nodup) (hseen:∀ r,r∈us.map rT++ws++l->hasB v.seen r.source r.aF=true)
  (hb:(us.length:Int)+ws.length+l.length+v.open_.length<=nO v.seen/\vN v.aP=nO v.seen+rj.length):lN ⟨v,(uZ bS l us ws).1,(uZ bS l us ws).2,rj⟩:=by
 obtain ⟨p1,p2,p3,p4⟩:=Gh bS hl hv l us ws hw hu;have hp:(n9 ⟨v,(uZ bS l us ws).1,(uZ bS l us ws).2,rj⟩).Perm (us.map rT++ws++l++v.open_):=by
  unfold n9;exact p2.append_right _
 have hlen:=AK bS l us ws;have hvv:∀ r,r∈us.map rT++ws++l++v.open_->da r=0:=λr hr=>by
  rcases zbc.1 hr with hr|hr
  ·rcases zbc.1 hr with hr|hr
   ·exact JV r hr
   ·exact (hw r hr).1
  ·exact (gv.T6.ok r hr).1
 refine ⟨gv,p1,λr hr=>?_,hrj,λr hr=>hvv r (hp.mem_iff.1 hr),λr hr=>?_,?_,?_⟩
 ·rcases p4 r hr with q|q
  ·exact hws r q
  ·exact (hw r q).2
 ·have h1:=hp.mem_iff.1 hr;have h2:=HT (hvv r h1);rw[h2,zeu];rcases zbc.1 h1 with h1|h1
  ·exact hseen r h1
  ·exact ((yC _ _).1 gv.ids).1 r h1 |>.1
 ·rw[NY];exact ((hp.map ky).nodup_iff).2 EX
 ·rw[xE];simp only;omega
theorem lN.old {m:ah} (g:lN m):(∀ r,r∈m.usages.map rT++m.aH->da r=0)/\(∀ r,r∈m.usages.map rT++m.aH->hasB m.al.seen r.source r.aF=true):=by
 refine ⟨λr hr=>g.valid r ?_,λr hr=>?_⟩
 ·unfold n9;exact zca _ hr
 ·have:=g.seen r (by unfold n9;exact zca _ hr);simp only[zat] at this;exact this.1
theorem Pv {l:O Range} {a b:aa} (h:ky a=ky b):hasB l a.source a.aF=hasB l b.source b.aF:=by
 unfold ky at h;simp only[Prod.mk.injEq] at h;rw[h.1,h.2]
section run
variable (bS:O Event) (hl:bS.length<=40) (hv:VC b0 0 bS)
include hl hv
theorem R8 {m:ah} (g:lN m) {b:Batch} {w:bU} (hA:Qx m.al b) (he:(oa m.al b w).2.2.2=0):lN (xD bS m b w).1:=by
 unfold xD;rw[zab he];have hc:A4 b=0:=by
  unfold oa at he;split at he
  ·assumption
  ·exact absurd he (by assumption)
 have hn:b.number=lA b.source 1 m.al.aP:=by
  unfold oa at he;rw[zab hc] at he;split at he
  ·assumption
  ·simp at he
 have ha:oa m.al b w=DB m.al b w:=by unfold oa;rw[zab hc,zab hn]
 rw[ha];obtain ⟨k1,k2,k3,k4,k5⟩:=Dy hc;obtain ⟨a1,a2,a3,a4,a5⟩:=DC w b.records m.al.seen 0 hA.qW.can k5;obtain ⟨s1,s2,s3⟩:=Ib w b.records m.al.seen 0;have gy:=Us (w:=w) hA hc hn;generalize hT:dP w m.al.seen 0 b.records=T at a1 a2 a3 a4 a5 s1 s2 s3;have hfv:∀ r,r∈T.2.1->da r=0:=λr hr=>k5 r (HW (by rw[hT];exact hr));obtain ⟨j1,j2⟩:=EI T.2.1 m.al.open_ hfv;have j3:=yB m.al.open_ T.2.1;have hy:DB m.al b w=((⟨T.1,(eP m.al.open_ T.2.1).2,m.al.aP++[(⟨b.source,b.number,b.format,(b.records.length:Int)⟩:Head)]⟩:aG),(eP m.al.open_ T.2.1).1,T.2.2,0):=by
  unfold DB;rw[hT]
 rw[hy] at gy ⊢;obtain ⟨o1,o2⟩:=g.old;have hb:=(xE m).1 g.bal;have XK:=NY.1 g.uniq;unfold n9 at XK;have pL:((m.usages.map rT++m.aH++(m.al.open_++T.2.1)).map ky).Nodup:=by
  rw[←zar,zce,zdl];refine ⟨XK,NY.1 a4,λx hx y hy e=>?_⟩;obtain ⟨r,hr,rfl⟩:=zcy.1 hx;obtain ⟨q,hq,rfl⟩:=zcy.1 hy;have h1:=g.seen r hr;have h2:=(a3 q hq).2;simp only[zat] at h1;rw[Pv e,h2] at h1;exact absurd h1.1 (by simp)
 have RW:o9 ((m.usages.map rT++m.aH++(eP m.al.open_ T.2.1).1++(eP m.al.open_ T.2.1).2).map ky) ((m.usages.map rT++m.aH++(m.al.open_++T.2.1)).map ky):=by
  have:=(o9.refl ((m.usages.map rT++m.aH).map ky)).append j2;rw[←zce,←zce,←zar] at this;exact this
 refine Ic bS hl hv _ _ _ _ _ gy g.usg g.WN j1 (λx hx=>?_) o1 (RW.nodup pL) (λr hr=>?_) ?_
 ·rcases zbc.1 hx with hx|hx
  ·exact g.rej x hx
  ·exact s3 x hx
 ·rcases zbc.1 hr with hr|hr
  ·exact a2 _ _ (o2 r hr)
  ·have hk:=j2.mem (zcd (f:=ky) (zca _ hr));obtain ⟨q,hq,e⟩:=zcy.1 hk;rw[Pv e.symm];rcases zbc.1 hq with hq|hq
   ·exact a2 _ _ (((yC _ _).1 hA.qW.ids).1 q hq).1
   ·exact (a3 q hq).1
 ·simp only;rw[EJ,zah];simp only;omega
theorem Pw {m:ah} (g:lN m):lN (I1 bS m):=by
 obtain ⟨o1,o2⟩:=g.old;have hb:=(xE m).1 g.bal;have XK:=NY.1 g.uniq;unfold n9 at XK;refine Ic bS hl hv _ _ _ _ _ g.al g.usg (by simp) (λr hr=>⟨o1 r (zdw _ hr),g.WN r hr⟩) g.rej (λr hr=>o1 r (zca _ (by simpa using hr))) ?_ (λr hr=>o2 r (by simpa using hr)) ?_
 ·simpa using XK
 ·simp only[zas];omega
theorem N2 {m:ah} (g:lN m) (t:Int):lN (I2 bS m t):=by
 obtain ⟨o1,o2⟩:=g.old;have hb:=(xE m).1 g.bal;have XK:=NY.1 g.uniq;unfold n9 at XK;have gc:o7 (Ch m.al t).1:=Pm g.al t;obtain ⟨e1,e2⟩:=Ia t m.al.open_.length m.al.open_ λx hx=>(g.al.T6.ok x hx).1
 have e3:=Gg m.al t;have RW:o9 ((m.usages.map rT++m.aH++(Ch m.al t).2++(Ch m.al t).1.open_).map ky) ((m.usages.map rT++m.aH++m.al.open_).map ky):=by
  have:=(o9.refl ((m.usages.map rT++m.aH).map ky)).append e2;rw[←zce,←zce,←zar] at this;exact this
 refine Ic bS hl hv _ _ _ _ _ gc g.usg g.WN e1 g.rej o1 (RW.nodup XK) (λr hr=>?_) ?_
 ·rcases zbc.1 hr with hr|hr
  ·exact o2 r hr
  ·have hk:=e2.mem (zcd (f:=ky) (zca _ hr));obtain ⟨q,hq,e⟩:=zcy.1 hk;have:hasB m.al.seen r.source r.aF=hasB m.al.seen q.source q.aF:=Pv e.symm;show hasB m.al.seen r.source r.aF=true;rw[this];exact (((yC _ _).1 g.al.ids).1 q hq).1
 ·show _<=nO m.al.seen/\vN m.al.aP=nO m.al.seen+_;omega
end run
theorem lN.XL {m:ah} (g:lN m):∀ r,r∈n9 m->Sm r:=λr hr=>Ay (g.valid r hr)
theorem lN.sm22 {m:ah} (g:lN m) (h1:m.al.seen.length<=1000) (h2:m.al.aP.length<=1000) (h3:m.al.open_.length<=1000) (h4:m.usages.length<=1000) (h5:m.aH.length<=1000) (h6:m.br.length<=1000):H7 m :=
 ⟨⟨h1,h2,h3,g.al.T6.wt.sm⟩,h4,h5,h6,λu hu=>g.XL _ (by unfold n9;exact zca _ (zca _ (zcd hu))),λr hr=>g.XL _ (by unfold n9;exact zca _ (zdw _ hr))⟩
theorem lN.check {m:ah} (g:lN m) (h:H7 m):gY m=some true:=by
 obtain ⟨b,e,q⟩:=p_ck22 m h;rw[e,q.2 g]
theorem lN.med {m:ah} (g:lN m) (h:H7 m) (h1:m.al.seen.length<=600) (h2:m.al.aP.length<=600) (h3:m.al.open_.length<=600):US m :=
 ⟨g.al,h1,h2,h3,by have:=h.l1;omega,by have:=h.l2;omega,by have:=h.l3;omega,h.s⟩
structure Fact (m n:ah) (k:Nat):Prop where
 us:∃ z,n.usages=m.usages++z
 len:n.usages.length+n.aH.length+n.al.open_.length+n.br.length<=m.usages.length+m.aH.length+m.al.open_.length+m.br.length+k
 read:vN n.al.aP=vN m.al.aP+k
 mer:(nO m.al.seen-(m.usages.length:Int)) - m.aH.length-m.al.open_.length<=(nO n.al.seen-(n.usages.length:Int)) - n.aH.length-n.al.open_.length
 seen:n.al.seen.length<=m.al.seen.length+k
 aP:n.al.aP.length=m.al.aP.length+1
theorem WT {v:aG} {b:Batch} {w:bU} (he:(oa v b w).2.2.2=0):A4 b=0/\b.number=lA b.source 1 v.aP/\oa v b w=DB v b w:=by
 have hc:A4 b=0:=by
  unfold oa at he;split at he
  ·assumption
  ·exact absurd he (by assumption)
 have hn:b.number=lA b.source 1 v.aP:=by
  unfold oa at he;rw[zab hc] at he;split at he
  ·assumption
  ·simp at he
 exact ⟨hc,hn,by unfold oa;rw[zab hc,zab hn]⟩
section run
variable (bS:O Event) (hl:bS.length<=40) (hv:VC b0 0 bS)
include hl hv
theorem R9 {m:ah} (g:lN m) {b:Batch} {w:bU} (hA:Qx m.al b) (he:(oa m.al b w).2.2.2=0):Fact m (xD bS m b w).1 b.records.length:=by
 obtain ⟨hc,hn,ha⟩:=WT he;obtain ⟨s1,s2,s3⟩:=Ib w b.records m.al.seen 0;obtain ⟨_,_,p3,_⟩:=Gh bS hl hv (oa m.al b w).2.1 m.usages m.aH (Ln m.al b w hA) g.usg;have hp:=AK bS (oa m.al b w).2.1 m.usages m.aH;have zo:=HX w m.al.seen b.records 0;have hj:=yB m.al.open_ (dP w m.al.seen 0 b.records).2.1;unfold xD;rw[zab he];rw[ha] at p3 hp ⊢;have e1:(DB m.al b w).1.seen=(dP w m.al.seen 0 b.records).1:=rfl;have e2:(DB m.al b w).1.open_=(eP m.al.open_ (dP w m.al.seen 0 b.records).2.1).2:=rfl;have e3:(DB m.al b w).1.aP=m.al.aP++[(⟨b.source,b.number,b.format,(b.records.length:Int)⟩:Head)]:=rfl;have e4:(DB m.al b w).2.1=(eP m.al.open_ (dP w m.al.seen 0 b.records).2.1).1:=rfl;have e5:(DB m.al b w).2.2.1=(dP w m.al.seen 0 b.records).2.2:=rfl;rw[e4] at p3 hp ⊢;rw[e5];refine ⟨p3,?_,?_,?_,?_,?_⟩
 ·simp only[zah];rw[e2];omega
 ·simp only;rw[e3,EJ]
 ·simp only;rw[e1,e2,s1];omega
 ·simp only;rw[e1];omega
 ·simp only;rw[e3,zah];rfl
end run
theorem XM:∀ (l:O Event) (b:Bk) (last:Int),VC b last l->∀ e,e∈l->last<=e.at_
 | [],_,_,_=>λe he=>absurd he (by simp)
 | x::l,b,last,⟨f,b',_,h⟩=>λe he=>by
  have hx:=f.form.at_;rcases zan.1 he with rfl|he
  ·exact hx
  ·exact Int.le_trans hx (XM l b' x.at_ h e he)
theorem QS (t:Int):∀ (l:O Event) (b:Bk) (last:Int),VC b last l->VC b last (l.filter λe=>decide (e.at_<=t))
 | [],_,_,_=>trivial
 | x::l,b,last,⟨f,b',hb,h⟩=>by
  rw[zbk];by_cases hx:x.at_<=t
  ·rw[zab (by simpa using hx)];exact ⟨f,b',hb,QS t l b' x.at_ h⟩
  ·rw[zaa (by simpa using hx)];have:l.filter (λe=>decide (e.at_<=t))=[]:=by
    rw[zcx];intro e he;have:=XM l b' x.at_ h e he;simp only[zak];omega
   rw[this];trivial
theorem UY (bS:O Event) (t:Int) (hl:bS.length<=40):vk bS t=some (bS.filter λe=>decide (e.at_<=t)):=by
 unfold vk;have:=bm (step:=λs:O Event×Int=>qg bS t s.1 s.2) bS (λs=>s.2) (λs u=>some (bS.filter λe=>decide (e.at_<=t))) (λs u=>0<=s.2/\(s.1.length:Int)<=s.2/\s.1++u.filter (λe=>decide (e.at_<=t))=bS.filter λe=>decide (e.at_<=t)) (by omega) ?_ ?_ (s:=([],0)) rfl ⟨by simp,by simp,by simp⟩
 ·exact this
 ·rintro ⟨o,i⟩ ⟨i1,i2,i3⟩ i4;simp only at i1 i2 i3 i4;simp only[List.filter_nil,zbp] at i3;refine ⟨o,?_,by rw[i3]⟩;unfold qg;rw[zaa (by simp only[zak];omega)]
 ·rintro ⟨o,i⟩ e u ⟨i1,i2,i3⟩ i4 i5 i6 i7;simp only at i1 i2 i3 i4 i5 i6 i7;unfold qg;simp only;rw[zab (by simpa using i5),af ⟨i4,i5⟩,i6];rw[zbk] at i3;by_cases ha:e.at_<=t
  ·rw[zab (by simpa using ha)] at i3;rw[zab (by simpa using ha),af ⟨i4,i5⟩,af (by simp only[zal];omega),af ⟨by omega,by omega⟩];exact .inr ⟨_,rfl,⟨by simp only;omega,by simp only[zah,zal];omega,by simpa using i3⟩,by first|rfl|trivial,by first|rfl|trivial⟩
  ·rw[zaa (by simpa using ha)] at i3;rw[zaa (by simpa using ha),af ⟨by omega,by omega⟩];exact .inr ⟨_,rfl,⟨by simp only;omega,by simp only;omega,i3⟩,by first|rfl|trivial,by first|rfl|trivial⟩
structure yG (m:ah) (i:Int):Prop where
 qW:lN m
 tot:(m.usages.length+m.aH.length+m.al.open_.length+m.br.length:Int)<=40*i
 seen:(m.al.seen.length:Int)<=40*i
 aP:(m.al.aP.length:Int)<=i
theorem yG.up {m:ah} {i:Int} (h:yG m i):yG m (i+1):=⟨h.qW,by have:=h.tot;omega,by have:=h.seen;omega,by have:=h.aP;omega⟩
theorem yG.sm {m:ah} {i:Int} (h:yG m i) (hi:i<=10):H7 m:=by
 have a:=h.tot;have b:=h.seen;have c:=h.aP;exact h.qW.sm22 (by omega) (by omega) (by omega) (by omega) (by omega) (by omega)
theorem yG.med {m:ah} {i:Int} (h:yG m i) (hi:i<=10):US m:=by
 have a:=h.tot;have b:=h.seen;have c:=h.aP;exact h.qW.med (h.sm hi) (by omega) (by omega) (by omega)
theorem DF (V:ah) (i:Int) (h:yG V (i+1)) (hi:0<=i/\i<10) :
  dt i V.al.seen V.al.open_ V.al.aP V.usages V.aH V.br V.al.seen V.al.open_ V.al.aP V.usages V.aH V.br=some (.inl (i+1,V.al.seen,V.al.open_,V.al.aP,V.usages,V.aH,V.br,V.al.seen,V.al.open_,V.al.aP,V.usages,V.aH,V.br)):=by
 have a:=h.tot;have b:=h.seen;have c:=h.aP;have s:=h.sm (by omega);have hb:=s.bal h.qW.al;have hV:(⟨(⟨V.al.seen,V.al.open_,V.al.aP⟩:aG),V.usages,V.aH,V.br⟩:ah)=V:=rfl;unfold dt;rw[hV,UX V (by omega) (by omega) (by omega) (by omega) (by omega) (by omega),h.qW.check s,JQ V hb,Ps V hb];simp only[zac,cG,zci,zcm,zby,zgd,bN.uO,zaz,zbw];rw[af (by omega)]
theorem yG.XN {bS:O Event} (hl:bS.length<=40) (hv:VC b0 0 bS) {m:ah} {i:Int} (h:yG m i):yG (I1 bS m) (i+1):=by
 have a:=h.tot;have b:=h.seen;have c:=h.aP;have hp:=AK bS m.aH m.usages [];simp only[zas] at hp;refine ⟨Pw bS hl hv h.qW,?_,?_,?_⟩
 ·simp only[I1];omega
 ·simp only[I1];omega
 ·simp only[I1];omega
theorem yG.close {bS:O Event} (hl:bS.length<=40) (hv:VC b0 0 bS) {m:ah} {i:Int} (h:yG m i) (t:Int):yG (I2 bS m t) (i+1):=by
 have a:=h.tot;have b:=h.seen;have c:=h.aP;have hp:=AK bS (Ch m.al t).2 m.usages m.aH;have hc:=Gg m.al t;have e1:(Ch m.al t).1.seen=m.al.seen:=rfl;have e2:(Ch m.al t).1.aP=m.al.aP:=rfl;refine ⟨N2 bS hl hv h.qW t,?_,?_,?_⟩
 ·simp only[I2];omega
 ·simp only[I2];rw[e1];omega
 ·simp only[I2];rw[e2];omega
theorem yG.feed {bS:O Event} (hl:bS.length<=40) (hv:VC b0 0 bS) {m:ah} {i:Int} (h:yG m i) {b:Batch} {w:bU} (hA:Qx m.al b) (hn:b.records.length<=30) (he:(oa m.al b w).2.2.2=0):yG (xD bS m b w).1 (i+1):=by
 have a:=h.tot;have b':=h.seen;have c:=h.aP;have ft:=R9 bS hl hv h.qW hA he;have f1:=ft.len;have f2:=ft.seen;have f3:=ft.aP;refine ⟨R8 bS hl hv h.qW hA he,?_,?_,?_⟩ <;> omega
theorem Sa:yG Of 0:=by
 have g:o7 Of.al:=⟨rfl,⟨by simp [Of],by simp [Of]⟩,K9,by
    rw[Dw];intro k _ _;exact zey _,rfl⟩
 refine ⟨⟨g,λk hk=>absurd hk (by simp [Of]),λr hr=>absurd hr (by simp [Of]),λr hr=>absurd hr (by simp [Of]),λr hr=>absurd hr (by simp [Of,n9]),λr hr=>absurd hr (by simp [Of,n9]),by simp [Of,n9],?_⟩,by simp [Of],by simp [Of],by simp [Of]⟩;rw[xE];simp [Of,nO,vN]
theorem N3 (bS:O Event) (v:O cM):mb bS v=some true:=by
 unfold mb;obtain ⟨c1,h1,q1⟩:=p_Few bS;rw[h1,Lm];simp only[zac];by_cases hlen:(v.length:Int) > 10
 ·rw[zab (by simp [hlen])]
 ·cases c1 with
  | false=>rfl
  | true =>
   obtain ⟨hl,_,hv⟩:=q1 rfl;rw[zaa (by simpa using hlen)];refine bm v (λst:Int×O Range×O aa×O Head×O aA×O aa×O ai×O Range×O aa×O Head×O aA×O aa×O ai=>st.1) (λst t=>some true) (λst t=>∃ V,yG V st.1/\st.2=(V.al.seen,V.al.open_,V.al.aP,V.usages,V.aH,V.br,V.al.seen,V.al.open_,V.al.aP,V.usages,V.aH,V.br)) (by omega) ?_ ?_ (s:=((0:Int),([]:O Range),([]:O aa),([]:O Head),([]:O aA),([]:O aa),([]:O ai),([]:O Range),([]:O aa),([]:O Head),([]:O aA),([]:O aa),([]:O ai))) rfl ⟨Of,Sa,rfl⟩
   ·rintro ⟨i,s1,o1,g1,u1,w1,r1,s2,o2,g2,u2,w2,r2⟩ _ hi;simp only at hi ⊢;unfold jG;rw[zaa (by simp only[zak];omega),Lm];exact ⟨_,rfl,rfl⟩
   ·rintro ⟨i,s1,o1,g1,u1,w1,r1,s2,o2,g2,u2,w2,r2⟩ x t ⟨V,hR,mJ⟩ ia fz hx hle;simp only[Prod.mk.injEq] at hR mJ ia fz hx hle ⊢;obtain ⟨rfl,rfl,rfl,rfl,rfl,rfl,rfl,rfl,rfl,rfl,rfl,rfl⟩:=mJ;have hV:(⟨(⟨V.al.seen,V.al.open_,V.al.aP⟩:aG),V.usages,V.aH,V.br⟩:ah)=V:=rfl;have hm:=hR.med (by omega);unfold jG;obtain ⟨c,h3,h4⟩:=few22 x.yN.batch.records;rw[zab (by simpa using fz),af ⟨ia,fz⟩,hx,UY bS x.now hl,zac,h3,zac,hV];cases c with
    | false =>
     rw[zab (by rfl),Lm];exact .inl ⟨_,rfl,rfl⟩
    | true =>
     obtain ⟨r1,r2⟩:=h4 rfl;have I5:(bS.filter λe=>decide (e.at_<=x.now)).length<=40:=zdn (List.length_filter_le ..) hl;have BN:=QS x.now bS b0 0 hv;generalize (bS.filter λe=>decide (e.at_<=x.now))=E at I5 BN;rw[zaa (by simp)];by_cases k1:x.kind=1
     ·rw[zab (by simp [k1]),WR E (by omega) V hm,UU E I5 BN V hm,zac,zac,DF (I1 E V) i (hR.XN I5 BN) ⟨ia,by omega⟩];exact .inr ⟨_,rfl,⟨_,hR.XN I5 BN,rfl⟩,rfl,trivial⟩
     ·rw[zaa (by simpa using k1)];by_cases k2:x.kind=2
      ·rw[zab (by simp [k2]),UT E (by omega) V x.before hm,R6 E I5 BN V x.before hm,zac,zac,DF (I2 E V x.before) i (hR.close I5 BN x.before) ⟨ia,by omega⟩];exact .inr ⟨_,rfl,⟨_,hR.close I5 BN x.before,rfl⟩,rfl,trivial⟩
      ·rw[zaa (by simpa using k2),p_Feed E (by omega) V x.yN.batch x.yN.qH hm (by omega) r2,WS E I5 BN V x.yN.batch x.yN.qH hm (by omega) r2,zac,zac,zaa (by simp)];by_cases he:(oa V.al x.yN.batch x.yN.qH).2.2.2=0
       ·have e0:(xD E V x.yN.batch x.yN.qH).2=0:=by unfold xD;rw[zab he]
        have hR':=hR.feed I5 BN (hm.smA (b:=x.yN.batch) (by omega) r2) r1 he;rw[zab (by rw[e0];rfl),DF _ i hR' ⟨ia,by omega⟩];exact .inr ⟨_,rfl,⟨_,hR',rfl⟩,rfl,trivial⟩
       ·have e0:(xD E V x.yN.batch x.yN.qH).2=(oa V.al x.yN.batch x.yN.qH).2.2.2:=by unfold xD;rw[zaa he]
        rw[zaa (by rw[e0];simpa using he),DF V i hR.up ⟨ia,by omega⟩];exact .inr ⟨_,rfl,⟨_,hR.up,rfl⟩,rfl,trivial⟩
end Go.Proofs.YtimkfiaffohhkabGreatDoor
namespace Go.Abs
open Go.RowKit Go.ChangeShapes Go.WideShapes Go.Deep
inductive Sh where
 | i (k:IntKind)
 | b
 | s
 | sl (row:List Sh)
inductive jc:Sh->D->Prop where
 | i (k:IntKind) (n:Int) (h:(Lit.int k n).wf=true):jc (.i k) (.ex (.int k n))
 | b (x:Bool):jc .b (.ex (.bool x))
 | s (l:List uA) (h:l.length<=maxLen):jc .s (.ex (.string ⟨l.toArray⟩))
 | sl (row:List Sh) (rows:List (List D)) (hn:rows.length<=maxLen) (h1:∀ r,r∈rows->r.length=row.length)
   (h:∀ r,r∈rows->∀ (i:Nat) sh d,row[i]?=some sh->r[i]?=some d->jc sh d):jc (.sl row) (.sl row.length rows)
def DG (P:uG) (rec:uE->Option (List Sh)):List Field->Nat->Option (List Sh)
 | [],_=>some []
 | f::fs,off=>match rec f.type with
  | some r=>if Nat.beq f.offset off && Nat.beq r.length (P.cellsOf f.type) then (DG P rec fs (off+r.length)).map (r++·) else none
  | none=>none
def shape (P:uG):Nat->uE->Option (List Sh)
 | 0,_=>none
 | n+1,t=>match P.underlying t with
  | some (.int k)=>some [.i k]
  | some .bool=>some [.b]
  | some .string=>some [.s]
  | some (.slice e)=>match shape P n e with
   | some r=>if Nat.beq r.length (P.cellsOf e) && Nat.blt 0 r.length then some [.sl r] else none
   | none=>none
  | some (.struct fs)=>match DG P (shape P n) fs.toList 0 with
   | some r=>if Nat.beq r.length (P.cellsOf t) then some r else none
   | none=>none
  | _=>none
def xF (lim:Nat->Nat) (w:uC) (Sb:O Sh) (cs:O uB):Prop :=
 ∃ ds:O D,ds.length=Sb.length/\cs.length=Sb.length/\∀ (i:Nat) sh d c,Sb[i]?=some sh->ds[i]?=some d->cs[i]?=some c->jc sh d/\dY lim w d c/\c.oneCell'=true
theorem xF.one {lim:Nat->Nat} {w:uC} {sh:Sh} {d:D} {c:uB} (h1:jc sh d) (h2:dY lim w d c) (h3:c.oneCell'=true):xF lim w [sh] [c]:=by
 refine ⟨[d],rfl,rfl,λi sh' d' c' ha hb hc=>?_⟩;cases i with
 | zero=>simp at ha hb hc;subst ha;subst hb;subst hc;exact ⟨h1,h2,h3⟩
 | succ i=>simp at ha
theorem xF.nil {lim:Nat->Nat} {w:uC}:xF lim w [] []:=⟨[],rfl,rfl,λi _ _ _ h=>by simp at h⟩
theorem xF.append {lim:Nat->Nat} {w:uC} {s1 s2:O Sh} {c1 c2:O uB} (h:xF lim w s1 c1) (k:xF lim w s2 c2):xF lim w (s1++s2) (c1++c2):=by
 obtain ⟨d1,a1,b1,e1⟩:=h;obtain ⟨d2,a2,b2,e2⟩:=k;refine ⟨d1++d2,by simp [a1,a2],by simp [b1,b2],λi sh d c ha hb hc=>?_⟩;by_cases hi:i<s1.length
 ·rw[zap hi] at ha;rw[zap (by omega)] at hb hc;exact e1 i sh d c ha hb hc
 ·rw[zax (by omega)] at ha hb hc;rw[a1] at hb;rw[b1] at hc;exact e2 _ sh d c ha hb hc
section opening
variable {H:Type} {enc:uE×uB->H} {P:uG} {w:uC} {held:Bool} {lim:Nat->Nat}
theorem DH {rec:uE->J (O Sh)} (cs:O uB):∀ (fs:O Field) (off:Nat) (Sb:O Sh),DG P rec fs off=some Sb->cs.length=off+Sb.length ->
  (∀ (i:Nat) f,fs[i]?=some f->∀ r,rec f.type=some r->r.length=P.cellsOf f.type->xF lim w r ((cs.drop f.offset).take (P.cellsOf f.type)))->xF lim w Sb (cs.drop off)
 | [],off,Sb,h,hl,_=>by
  simp [DG] at h;subst h;rw[zdf (by simp at hl;omega)];exact .nil
 | f::fs,off,Sb,h,hl,hf=>by
  unfold DG at h;split at h
  ·rename_i r hr;split at h
   ·rename_i hc;rw[zat] at hc;replace hc:=And.intro (zaw hc.1) (zaw hc.2);obtain ⟨rest,Bv,rfl⟩:=zcn.1 h;simp only[zah] at hl;have h1:=hf 0 f rfl r hr hc.2;have h2:=DH cs fs (off+r.length) rest Bv (by omega) λi g hg=>hf (i+1) g (by simpa using hg)
    have e:cs.drop off=(cs.drop f.offset).take (P.cellsOf f.type)++cs.drop (off+r.length):=by
     rw[hc.1,←hc.2,←List.drop_drop,zfe]
    rw[e];exact h1.append h2
   ·cases h
  ·cases h
theorem Ad (BI:∀ b off u,w.cell? ⟨b,off,none⟩=some u->off<lim b):∀ (n:Nat) (t:uE) (Sb:O Sh),shape P n t=some Sb->∀ fuel cs x,DataW.trod enc P w 0 (λ_=>true) held fuel t cs=some x->xF lim w Sb cs
 | 0,_,_,h=>by simp [shape] at h
 | n+1,t,Sb,h=>by
  intro fuel cs x ht;unfold shape at h;split at h
  ·rename_i k hu;cases h;obtain ⟨m,rfl,_,hw⟩:=DataW.trod_int hu ht;exact .one (.i k m hw) (.ex _) rfl
  ·rename_i hu;cases h;obtain ⟨b,rfl,_⟩:=DataW.trod_bool hu ht;exact .one (.b b) (.ex _) rfl
  ·rename_i hu;cases h;obtain ⟨⟨a⟩,rfl,_,hs⟩:=DataW.trod_string hu ht;exact .one (.s a.toList (by simpa [ByteArray.size] using hs)) (.ex _) rfl
  ·rename_i e hu;split at h
   ·rename_i r hr;split at h
    ·rename_i hc;cases h;rw[zat] at hc;obtain ⟨hc1,hc2⟩:=And.intro (zaw hc.1) (jU hc.2);rcases open_slice hu ht with ⟨rfl,_⟩|⟨a,len,cap,m,n',D0,Pl,rfl,hb,hl,hm,hmm,hx,hi⟩
     ·exact .one (.sl r [] (zfv _) (λ_ h=>by cases h) (λ_ h=>by cases h)) (.nil _ _) rfl
     ·simp only[zby] at hmm;subst hmm;obtain ⟨F,hF⟩:=choose_lt (n:=m) (p:=λi (ds:O D)=>ds.length=r.length/\∀ (j:Nat) sh d,r[j]?=some sh->ds[j]?=some d->∃ c,w.cell? (a.add (i*r.length+j))=some c/\jc sh d/\dY lim w d c/\c.oneCell'=true) (λi hi'=>by
       obtain ⟨Fk,h1,h2⟩:=hi i hi';obtain ⟨ds,k1,k2,k3⟩:=Ad BI n e r hr n' Fk _ h2;obtain ⟨_,h3,h4⟩:=World.cells?_some h1;refine ⟨ds,k1,λj sh d hj hd=>?_⟩;have Ip:j<r.length:=(zae.1 hj).1;have tH:Fk[j]?=some (Fk[j]'(by omega)):=zag (by omega);refine ⟨Fk[j]'(by omega),?_,k3 j sh d _ hj hd tH⟩;rw[←tH,←h4 j (by omega),←hc1,Go.Deep.add_add])
      have Cu:jc (.sl r) (.sl r.length ((List.range len).map F)):=by
       refine .sl r _ (by simp;omega) (λrow s6=>?_) λrow s6 i sh d hs hd=>?_
       ·obtain ⟨i,Sj,rfl⟩:=zcy.1 s6;exact (hF i (by have:=List.mem_range.1 Sj;omega)).1
       ·obtain ⟨i',Sj,rfl⟩:=zcy.1 s6;obtain ⟨c,_,hh,_⟩:=(hF i' (by have:=List.mem_range.1 Sj;omega)).2 i sh d hs hd;exact hh
      refine .one Cu ?_ rfl;rcases zev m with h0|h0
      ·subst h0;have:len=0:=by omega
       subst this;exact .nil _ _
      ·have XO:a.spot=none:=by
        obtain ⟨Fk,h1,h2⟩:=hi 0 h0;obtain ⟨_,h3,h4⟩:=World.cells?_some h1;have h5:=h4 0 (by omega);have h6:Fk[0]?=some (Fk[0]'(by omega)):=zag (by omega);rw[h6] at h5;unfold World.cell? at h5;split at h5
        ·split at h5
         ·cases h5
         ·rename_i Xz;simpa [Addr.add] using Xz
        ·cases h5
       obtain ⟨b,off,sp⟩:=a;simp only at XO;subst XO;have fN:∀ i j,i<m->j<r.length->∀ sh d,r[j]?=some sh->(F i)[j]?=some d->∃ c,w.cell? ⟨b,off+(i*r.length+j),none⟩=some c/\jc sh d/\dY lim w d c/\c.oneCell'=true:=λi j hi' hj sh d hs hd=>by
        obtain ⟨c,h1,h2⟩:=(hF i hi').2 j sh d hs hd;rw[Addr.add_lit] at h1;exact ⟨c,h1,h2⟩
       have hlen:((List.range len).map F).length=len:=by simp
       have key:=dY.sl (lim:=lim) (w:=w) r.length ((List.range len).map F) b off m (by rw[hlen];exact hl) (λrow s6=>by
        obtain ⟨i,Sj,rfl⟩:=zcy.1 s6;exact (hF i (by have:=List.mem_range.1 Sj;omega)).1) (λk hk=>by
        rw[hlen] at hk;have hdiv:k / r.length<len:=zdx (by rw[zdr];exact hk);have zn:k % r.length<r.length:=zen _ hc2;obtain ⟨c,h1,h2,h3,h4⟩:=fN (k / r.length) (k % r.length) (by omega) zn _ _ (zag zn) (zag (by rw[(hF _ (by omega)).1];exact zn));have e:k / r.length*r.length+k % r.length=k:=by rw[zdr];exact zew k r.length
        rw[e] at h1;exact ⟨BI _ _ _ h1,c,h1,h4⟩) (λi j row c u h1 h2 h3=>by
        rw[zbe] at h1;obtain ⟨i',Sj,rfl⟩:=zcn.1 h1;have qU:i<len:=by have:=(zae.1 Sj).1;simpa using this
        have:i'=i:=by rw[List.getElem?_range qU] at Sj;cases Sj;rfl
        subst this;have Ip:j<r.length:=by have:=(zae.1 h2).1;rw[(hF _ (by omega)).1] at this;exact this
        obtain ⟨c',k1,k2,k3,k4⟩:=fN i' j (by omega) Ip _ _ (zag Ip) h2;rw[h3] at k1;cases k1;exact k3)
       rw[hlen] at key;exact key
    ·cases h
   ·cases h
  ·rename_i fs hu;split at h
   ·rename_i r hr;split at h
    ·rename_i hc;cases h;have tH:=zaw hc;obtain ⟨ys,n',_,hy,hlen,w9,hf⟩:=DataW.trod_struct hu ht;have:=DH (lim:=lim) (w:=w) (P:=P) cs fs.toList 0 _ hr (by omega) λi f hi r' YO I5=>by
      have h1:=hf i f (by simpa using hi);have hys:ys[i]?=some (ys[i]'(by have:=(zae.1 hi).1;simp at this;omega)):=zag _;exact Ad BI n f.type r' YO n' _ _ (h1.trans hys)
     simpa using this
    ·cases h
   ·cases h
  ·cases h
end opening
end Go.Abs
namespace Go.Abs
open Go.RowKit Go.ChangeShapes Go.WideShapes Go.Deep Go.ChangeAt
def WU (w:uC) (b:Nat):Nat:=match w.heap[b]? with
 | some (.cells c _ _)=>c.size
 | _=>0
theorem WV (w:uC) (b off:Nat) (u:uB) (h:w.cell? ⟨b,off,none⟩=some u):off<WU w b:=by
 unfold World.cell? at h;unfold WU;split at h
 ·rename_i c e k hb;simp only at hb;rw[hb];simp only[Option.isSome_none,zaz,zbw] at h;exact (zay.1 h).1
 ·cases h
theorem xF.top {lim:Nat->Nat} {w:uC} {sh:Sh} {c:uB} (h:xF lim w [sh] [c]):∃ d,jc sh d/\dY lim w d c:=by
 obtain ⟨ds,h1,_,h3⟩:=h
 match ds,h1 with
 | [d],_=>exact ⟨d,(h3 0 sh d c rfl rfl rfl).1,(h3 0 sh d c rfl rfl rfl).2.1⟩
section top
variable {H:Type} {enc:uE×uB->H} {P:uG} {w:uC} {held:Bool} {r:Reach} {b0:Nat} {t:uE} {v:uB} {d:DataW H} {ps:O MemPlace}
theorem JS {n:Nat} {e:uE} {row:O Sh} (hs:shape P n t=some [.sl row]) (ht:P.underlying t=some (.slice e)) (hv:Value.okWide P w r b0 t v) (h:DataW.Trod enc P w 0 (λ_=>true) held t v d ps):∃ x,jc (.sl row) x/\dY (WU w) w x v:=by
 obtain ⟨a,l,c,rfl⟩:=okWide_slice ht hv;obtain ⟨fuel,hf⟩:=h;exact (Ad (WV w) n t _ hs fuel _ _ hf).top
end top
theorem QT {α:Type} {row:α->O D} {p:α->Prop}:∀ {rows:O (O D)},(∀ r,r∈rows->∃ x,p x/\r=row x)->∃ l:O α,rows=l.map row/\∀ x,x∈l->p x
 | [],_=>⟨[],rfl,λx h=>by cases h⟩
 | r::rows,h=>by
  obtain ⟨x,hx,rfl⟩:=h r zaj;obtain ⟨l,rfl,hl⟩:=QT (rows:=rows) (row:=row) (p:=p) λr' hr=>h r' (zai _ hr)
  exact ⟨x::l,rfl,λy hy=>by rcases zan.1 hy with rfl|hy;exact hx;exact hl y hy⟩
theorem jc.sl_inv {row:O Sh} {d:D} (h:jc (.sl row) d):∃ rows,d=.sl row.length rows/\rows.length<=maxLen/\∀ r,r∈rows->r.length=row.length/\∀ (i:Nat) sh d,row[i]?=some sh->r[i]?=some d->jc sh d:=by
 cases h with
 | sl _ rows hn h1 h=>exact ⟨rows,rfl,hn,λr hr=>⟨h1 r hr,h r hr⟩⟩
theorem jc.kt {d:D} (h:jc (.i .i64) d):∃ n:Int,d=.ex (.int .i64 n)/\-9223372036854775808<=n/\n<=9223372036854775807:=by
 cases h with
 | i _ n hw=>simp only[Lit.wf,zat,zak] at hw;exact ⟨n,rfl,hw⟩
theorem jc.XP {d:D} (h:jc .b d):∃ x:Bool,d=.ex (.bool x):=by cases h with|b x=>exact ⟨x,rfl⟩
section
variable {H:Type} {enc:uE×uB->H} {P:uG}
theorem I3 {f:Func} {s:ChangeSpec} {apart fresh handsOn again:Bool} {W W':uC} {args:uD uB} {v:uB} {ds gs:O (DataW H)} {before pa pv:O MemPlace}
  (hW:DataW.Whole enc P f.params.toList s.vars apart W args.toList ds gs before)
  (VM:∀ (b:Nat) (sp:Nat->Bool) (hd:Bool),DataW.TrodAll enc P W' b sp hd f.resultTypes.toList (v.resultList f.resultTypes.size) (s.fn H (ds++gs)).results [])
  (Mq:∀ sp:Nat->Bool,(∀ p∈before,sp p.block=true)->DataW.TrodAll enc P W' 0 sp true f.params.toList args.toList (s.fn H (ds++gs)).args pa)
  (XQ:∀ sp:Nat->Bool,(∀ p∈before,sp p.block=true)->DataW.TrodVars enc P W' sp s.vars (s.fn H (ds++gs)).vars pv)
  (hps:before=pa++pv) (hb:Below W.heap.size W W')
  (uq:∀ (j:Nat) (t:uE) (r:uB),f.resultTypes[j]?=some t->(v.resultList f.resultTypes.size)[j]?=some r->Value.okWide P W' .any 0 t r) :
  s.post enc P f apart fresh handsOn again W args v W':=by
 have cT:∀ p∈before,p.block<W.heap.size:=λp hp=>hW.lt p hp
 have hold:∀ p∈before,(λb=>decide (b<W.heap.size)) p.block=true:=λp hp=>by simpa using cT p hp
 refine ⟨ds,gs,before,[],pa,pv,hW,VM _ _ _,Mq _ hold,XQ _ hold,World.keptBut_mono (λp hp=>⟨hp,?_⟩) (hb.frame (·∈before)),λ_=>?_⟩
 ·rw[hps,zbc] at hp;exact Or.inr hp
 ·obtain ⟨_,_,_,_,_,hz,hn⟩:=hW;refine ⟨uq,_,_,([]++pa)++pv,⟨[]++pa,pv,trodAll_append (Mq _ (λ_ _=>rfl)) (VM _ _ _),XQ _ (λ_ _=>rfl),rfl,?_,?_⟩,?_⟩
  ·intro b off hp;have ET:MemPlace.cell b off∈before:=by rw[hps];simpa using hp
   rw[hb.frozen (cT _ ET)];exact hz b off ET
  ·intro ha;have:=hn ha;rw[hps] at this;simpa using this
  ·intro p hp _;rw[hps];simpa using hp
end
theorem BC {H:Type} {enc:uE×uB->H} {P:uG} (hl:laidOutB P=true) {W W':uC} (hb:Below W.heap.size W W') (sp:Nat->Bool):∀ {ts:O uE} {vs:O uB} {ds:O (DataW H)} {ps:O MemPlace},
  (ts.all λt=>P.readableRec t && decide (t<P.types.size))=true->DataW.TrodAll enc P W 0 (λ_=>true) true ts vs ds ps->(∀ x∈ps,x.block<W.heap.size)->(∀ x∈ps,sp x.block=true)->DataW.TrodAll enc P W' 0 sp true ts vs ds ps
 | [],[],[],_,_,h,_,_=>h
 | t::ts,v::vs,d::ds,ps,hr,h,cT,Xz=>by
  obtain ⟨p,q,h1,h2,rfl⟩:=h;simp only[zet,zat,zak] at hr;refine ⟨p,q,?_,?_,rfl⟩
  ·exact WideElems.Trod_stays hl hr.1.1 hr.1.2 h1 (λx hx=>hb.same (cT x (zca _ hx))) (λx hx=>Xz x (zca _ hx))
  ·exact BC hl hb sp (by simpa using hr.2) h2 (λx hx=>cT x (zdw _ hx)) (λx hx=>Xz x (zdw _ hx))
theorem jc.Lp {d:D} (h:jc .s d):∃ l:O uA,d=.ex (.string ⟨l.toArray⟩)/\l.length<=maxLen:=by cases h with|s l h=>exact ⟨l,rfl,h⟩
theorem UZ {α:Type} {row:α->O D} {p:α->Prop} {rows:O (O D)} (h:∀ r,r∈rows->∃ x,r=row x/\p x):∃ l:O α,rows=l.map row/\∀ x,x∈l->p x :=
 QT λr hr=>let ⟨x,h1,h2⟩:=h r hr;⟨x,h2,h1⟩
theorem jc.N4 {sh:O Sh} {d:D} {α:Type} {row:α->O D} {p:α->Prop} (h:jc (.sl sh) d)
  (hr:∀ r:O D,r.length=sh.length->(∀ (i:Nat) h d,sh[i]?=some h->r[i]?=some d->jc h d)->∃ x,r=row x/\p x) :
  ∃ l:O α,d=.sl sh.length (l.map row)/\l.length<=maxLen/\∀ z,z∈l->p z:=by
 obtain ⟨rows,rfl,hn,h2⟩:=h.sl_inv;obtain ⟨l,rfl,hl⟩:=UZ (row:=row) (p:=p) λr hrm=>hr r (h2 r hrm).1 (h2 r hrm).2
 exact ⟨l,rfl,by simpa using hn,hl⟩
end Go.Abs
