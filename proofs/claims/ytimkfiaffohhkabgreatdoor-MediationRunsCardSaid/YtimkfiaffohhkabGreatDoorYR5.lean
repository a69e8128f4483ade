/- Own. -/
import Derived.Test.YtimkfiaffohhkabGreatDoorYR4
import Derived.Lib.ItoaLen
set_option linter.unusedSimpArgs false
set_option linter.unusedVariables false
set_option linter.unusedSectionVars false
set_option maxRecDepth 100000
set_option maxHeartbeats 1000000
namespace Go.Proofs.YtimkfiaffohhkabGreatDoor
open Go.RowKit Go.Abs
theorem kp {α:Type} [Inhabited α] {b:Bool} {x:α}:cG b (some x)=some (if b=true then x else default):=by
 unfold cG;split <;> rfl
theorem vJ {α R:Type} [Inhabited α] {step:Int->J (Int ⊕ R)} (l:O α) (p:α->Bool) (fin bad:R) (hl:l.length<18446744073709551616)
  (h1:∀ i:Int,0<=i->i<(l.length:Int)->step i=some (if p (nth l i.toNat)=true then .inl (i+1) else .inr bad)) (h2:∀ i:Int,i=(l.length:Int)->step i=some (.inr fin)):loop step 0=some (if l.all p=true then fin else bad):=by
 have:=jM (step:=step) (λi:Int=>some (if (l.drop i.toNat).all p=true then fin else bad)) (λi=>0<=i/\i<=(l.length:Int)) (λi=>((l.length:Int) - i).toNat) (λi hI=>by
  by_cases hi:i<(l.length:Int)
  ·have hd:=oh (l:=l) (k:=i.toNat) (by omega);rw[h1 i hI.1 hi];by_cases hp:p (nth l i.toNat)=true
   ·rw[zab hp];refine .inr ⟨i+1,rfl,⟨by omega,by omega⟩,by omega,?_⟩;rw[show (i+1).toNat=i.toNat+1 from by omega,hd];simp [hp]
   ·rw[zaa hp];refine .inl ⟨bad,rfl,?_⟩;rw[hd];simp [hp]
  ·have:i=(l.length:Int):=by omega
   refine .inl ⟨fin,h2 i this,?_⟩;rw[zdf (by omega)];simp) (s:=0) ⟨by omega,by omega⟩ (by omega)
 simpa using this
def Hy (c:uA):Bool:=decide (48<=c) && decide (c<=57)
def qK (s:O uA):Bool:=s.all Hy && decide (1<=s.length) && decide (s.length<=15)
theorem Qe (s:O uA) (hl:s.length<1000000000):mn s=some (qK s):=by
 unfold mn;rw[vJ s Hy (decide ((s.length:Int)>=1) && decide ((s.length:Int)<=15)) false (by omega) (λi h0 h1=>?_) (λi hi=>?_)]
 ·unfold qK;cases s.all Hy <;> simp;rw[zbl];simp;omega
 ·unfold nR rn;rw[zab (by simpa using h1),af (by omega)];simp only[zac];rw[af (by omega)];unfold Hy;simp only[ge_iff_le];cases decide (48<=nth s i.toNat) <;> cases decide (nth s i.toNat<=57) <;> rfl
 ·unfold nR kY;rw[zaa (by simp;omega)];rfl
theorem Hz (s:O uA) (hl:s.length<1000000000):ou s=some (qK s):=by
 unfold ou;rw[vJ s Hy (decide ((s.length:Int)>=1) && decide ((s.length:Int)<=15)) false (by omega) (λi h0 h1=>?_) (λi hi=>?_)]
 ·unfold qK;cases s.all Hy <;> simp;rw[zbl];simp;omega
 ·unfold rf;rw[zab (by simpa using h1),af (by omega),af (by omega),af (by omega)];unfold Hy;have e1:decide (nth s i.toNat<48)=!decide (48<=nth s i.toNat):=by rw[←decide_not];simp
  have e2:decide (nth s i.toNat > 57)=!decide (nth s i.toNat<=57):=by rw[←decide_not];simp
  rw[e1,e2];cases decide (48<=nth s i.toNat) <;> cases decide (nth s i.toNat<=57) <;> rfl
 ·unfold rf ot;rw[zaa (by simp;omega)];rfl
def da (r:aa):Int :=
 if ¬(1<=r.source/\r.source<=99/\1<=r.aF/\r.aF<=999999999) then 6
 else if ¬(1<=r.kind/\r.kind<=4) then 7
 else if qK r.a=false∨(qK r.b=false/\¬((r.kind=3∨r.kind=4)/\r.b=[])) then 12
 else if ¬(0<=r.start/\r.start<=12622780799) then 15
 else if ¬(0<=r.cX/\r.cX<=1099511627776)∨(r.kind=1/\r.cX > 604800) then 6
 else if r.kind=1/\r.start+r.cX > 12622780800 then 15
 else if ¬(0<=r.call/\r.call<=999999999/\0<=r.part/\r.part<=99) then 6
 else if ¬(r.part=0↔r.call=0)∨(r.last=true/\r.part=0) then 8
 else if ¬(0<=r.dh/\r.dh<=999) then 6
 else if r.bL=true/\r.dh=0 then 8
 else 0
theorem gE {α:Type} {b:Bool} {p:Prop} [Decidable p] {x y x' y':α} (h:b=true↔p) (hx:p->x=x') (hy:¬p->y=y'):(if b=true then x else y)=if p then x' else y':=by
 by_cases hp:p
 ·rw[zab hp,zab (h.2 hp),hx hp]
 ·rw[zaa hp,zaa (λhb=>hp (h.1 hb)),hy hp]
theorem MP {α:Type} {p:Prop} [Decidable p] {x y:α}:(if p then some x else some y)=some (if p then x else y):=by split <;> rfl
theorem Qf (r:aa) (ha:r.a.length<1000000000) (hb:r.b.length<1000000000):nn r=some (da r):=by
 have key:∀ m,(m=1099511627776/\r.kind≠1)∨(m=604800/\r.kind=1)->gh r m=some (da r):=by
  intro m hm;unfold gh da;simp only[ef,Qe _ ha,Qe _ hb,zac,kp];simp only[←MP];refine gE (by simp;grind) (λ_=>rfl) (λh1=>?_);refine gE (by simp;grind) (λ_=>rfl) (λh2=>?_);refine gE (by simp;grind) (λ_=>rfl) (λh3=>?_);refine gE (by simp;grind) (λ_=>rfl) (λh4=>?_);refine gE (by simp;grind) (λ_=>rfl) (λh5=>?_);rw[af (by omega)];refine gE (by simp) (λ_=>rfl) (λh6=>?_);refine gE (by simp;grind) (λ_=>rfl) (λh7=>?_);refine gE (by simp;grind) (λ_=>rfl) (λh8=>?_);refine gE (by simp;grind) (λ_=>rfl) (λh9=>?_);refine gE (by simp) (λ_=>rfl) (λK1=>rfl)
 unfold nn;split
 ·rename_i h;exact key _ (.inr ⟨rfl,by simpa using h⟩)
 ·rename_i h;exact key _ (.inl ⟨rfl,by simpa using h⟩)
theorem MQ (r:aa) (ha:r.a.length<1000000000) (hb:r.b.length<1000000000):qO r=some (da r):=by
 unfold qO da;simp only[oI,Hz _ ha,Hz _ hb,zac,kp];simp only[←MP];refine gE (by simp;grind) (λ_=>rfl) (λh1=>?_);refine gE (by simp;grind) (λ_=>rfl) (λh2=>?_);by_cases hva:qK r.a=true
 ·rw[zaa (by simp [hva])];refine gE (by simp [hva];grind) (λ_=>rfl) (λh3=>?_);refine gE (by simp;grind) (λ_=>rfl) (λh4=>?_);refine gE (by simp;grind) (λ_=>rfl) (λh5=>?_);rw[af (by omega)];refine gE (by simp) (λ_=>rfl) (λh6=>?_);refine gE (by simp;grind) (λ_=>rfl) (λh7=>?_);refine gE (by simp;grind) (λ_=>rfl) (λh8=>?_);refine gE (by simp;grind) (λ_=>rfl) (λh9=>?_);refine gE (by simp) (λ_=>rfl) (λK1=>rfl)
 ·rw[zab (by simp [hva]),zab (by simp [hva])]
structure Good (r:aa):Prop where
 source:1<=r.source/\r.source<=99
 aF:1<=r.aF/\r.aF<=999999999
 kind:1<=r.kind/\r.kind<=4
 a:qK r.a=true
 b:qK r.b=true∨(r.kind=3∨r.kind=4)/\r.b=[]
 start:0<=r.start/\r.start<=12622780799
 cX:0<=r.cX/\r.cX<=1099511627776
 call:0<=r.call/\r.call<=999999999
 part:0<=r.part/\r.part<=99
 dh:0<=r.dh/\r.dh<=999
theorem nJ {r:aa} (h:da r=0):Good r:=by
 unfold da at h;split at h;· cases h
 split at h;· cases h
 split at h;· cases h
 split at h;· cases h
 split at h;· cases h
 split at h;· cases h
 split at h;· cases h
 split at h;· cases h
 split at h;· cases h
 split at h;· cases h
 rename_i h1 h2 h3 h4 h5 h6 h7 h8 h9 K1;refine ⟨by omega,by omega,by omega,?_,?_,by omega,by omega,by omega,by omega,by omega⟩
 ·cases hv:qK r.a with
  | true=>rfl
  | false=>exact absurd (.inl hv) h3
 ·cases hv:qK r.b with
  | true=>exact .inl rfl
  | false =>
   right;by_cases hh:(r.kind=3∨r.kind=4)/\r.b=[]
   ·exact hh
   ·exact absurd (.inr ⟨hv,hh⟩) h3
theorem sE {s:O uA} (h:qK s=true):s.length<=15:=by
 unfold qK at h;simp at h;exact h.2
def HA (r:aa):O (O uA):=[(([118,116,100,99]:O uA).take r.kind.toNat).drop (r.kind-1).toNat,Go.Lib.itoa r.source,Go.Lib.itoa r.aF,r.a,if r.b=[] then [45] else r.b,Go.Lib.itoa r.start,Go.Lib.itoa r.cX]
def Fc (r:aa):O (O uA):=if r.part=0 then [] else [[112,97,114,116],Go.Lib.itoa r.call,Go.Lib.itoa r.part]++if r.last=true then [[108,97,115,116]] else []
def Cb (r:aa):O (O uA):=if r.dh=0 then [] else [if r.bL=true then [105,110] else [111,117,116],Go.Lib.itoa r.dh]
def vK (r:aa):O (O uA):=HA r++Fc r++Cb r
def MR (r:aa):O uA:=Go.Lib.join (vK r) [32]
theorem TP (sep:O uA) (xs:O (O uA)) (m:Nat) (h:∀ x,x∈xs->x.length<=m):(Go.Lib.join xs sep).length<=xs.length*(m+sep.length):=by
 cases xs with
 | nil=>simp [Go.Lib.join]
 | cons x r =>
  rw[Go.Lib.join_cons];have h1:∀ (r:O (O uA)),(∀ x,x∈r->x.length<=m)->(Go.Lib.joinTail sep r).length<=r.length*(m+sep.length):=by
   intro r
   induction r with
   | nil=>simp [Go.Lib.joinTail]
   | cons y r ih =>
    intro hr;have:=ih λz hz=>hr z (zai _ hz)
    have h2:=hr y zaj;simp only[Go.Lib.joinTail,zao,zez,zah,zad,zdk] at *;omega
  have h3:=h1 r λz hz=>h z (zai _ hz)
  have h4:=h x zaj;simp only[zah,zad,zdk] at *;omega
theorem yt {n:Int} (h0:0<=n) (h1:n<=9223372036854775807):(Go.Lib.itoa n).length<=21:=Go.Lib.itoa_length_le n (by omega) h1
theorem TQ {r:aa} (g:Good r):(vK r).length<=13/\∀ x,x∈vK r->x.length<=21:=by
 have ha:=sE g.a;have hb:r.b.length<=15:=by
  rcases g.b with h|h
  ·exact sE h
  ·rw[h.2];simp
 obtain ⟨gs,ge,gk,_,_,gst,gu,gc,gp,gt⟩:=g;refine ⟨?_,λx hx=>?_⟩
 ·have h1:(Fc r).length<=4:=by unfold Fc;split;simp;split <;> simp
  have h2:(Cb r).length<=2:=by unfold Cb;split <;> simp
  have h3:(HA r).length=7:=rfl;simp only[vK,zah];omega
 ·unfold vK at hx;rcases zbc.1 hx with hx|hx
  ·rcases zbc.1 hx with hx|hx
   ·unfold HA at hx;simp only[zan,zep,or_false] at hx;rcases hx with rfl|rfl|rfl|rfl|rfl|rfl|rfl
    ·simp;omega
    ·exact yt (by omega) (by omega)
    ·exact yt (by omega) (by omega)
    ·omega
    ·split
     ·simp
     ·omega
    ·exact yt (by omega) (by omega)
    ·exact yt (by omega) (by omega)
   ·unfold Fc at hx;split at hx
    ·cases hx
    ·rcases zbc.1 hx with hx|hx
     ·simp only[zan,zep,or_false] at hx;rcases hx with rfl|rfl|rfl
      ·simp
      ·exact yt (by omega) (by omega)
      ·exact yt (by omega) (by omega)
     ·split at hx
      ·simp only[zan,zep,or_false] at hx;subst hx;simp
      ·cases hx
  ·unfold Cb at hx;split at hx
   ·cases hx
   ·simp only[zan,zep,or_false] at hx;rcases hx with rfl|rfl
    ·split <;> simp
    ·exact yt (by omega) (by omega)
theorem Cc {n:Int} (h0:0<=n) (h1:n<=9223372036854775807):wy n=some (Go.Lib.itoa n):=by
 unfold wy;rw[af (by omega)]
theorem MS (r:aa) (h:da r=0):gw r=some (MR r,0):=by
 have g:=nJ h;have ha:=sE g.a;have hb:r.b.length<=15:=by
  rcases g.b with h|h
  ·exact sE h
  ·rw[h.2];simp
 have Vh:∀ ws,ws=vK r->fL ws=some (MR r,0):=by
  rintro ws rfl;unfold fL OZ;obtain ⟨w1,w2⟩:=TQ g;have:=TP [32] (vK r) 21 w2;simp only[zad,zas] at this;have h3:(vK r).length*22<=13*22:=zcw _ w1;rw[af ⟨by omega,by omega⟩];rfl
 have Co:∀ ws,ws=HA r++Fc r->ws.length<=11->eN r ws=some (MR r,0):=by
  intro ws hw hl;unfold eN;by_cases ht:r.dh=0
  ·rw[zaa (by simp [ht])];exact Vh _ (by rw[hw,vK,Cb,zab ht];simp)
  ·rw[zab (by simp [ht])];unfold hC;rw[Cc g.dh.1 (by have:=g.dh.2;omega)];simp only[zac];split
   ·rename_i hi;rw[af (by simp;omega)];exact Vh _ (by rw[hw,vK,Cb,zaa ht,zab hi])
   ·rename_i hi;rw[af (by simp;omega)];exact Vh _ (by rw[hw,vK,Cb,zaa ht,zaa hi])
 have pA:∀ b,b=(if r.b=[] then [45] else r.b)->fM r b=some (MR r,0):=by
  rintro b rfl;unfold fM;have gk:=g.kind;rw[af (by omega),af (by simp;omega),Cc (by have:=g.source;omega) (by have:=g.source;omega),Cc (by have:=g.aF;omega) (by have:=g.aF;omega),Cc g.start.1 (by have:=g.start;omega),Cc g.cX.1 (by have:=g.cX;omega)];simp only[zac];by_cases hp:r.part=0
  ·rw[zaa (by simp [hp])];exact Co _ (by rw[Fc,zab hp];simp [HA]) (by simp)
  ·rw[zab (by simp [hp]),Cc g.call.1 (by have:=g.call;omega),Cc g.part.1 (by have:=g.part;omega)];simp only[zac];rw[af (by simp)];split
   ·rename_i hl;rw[af (by simp)];exact Co _ (by rw[Fc,zaa hp,zab hl];simp [HA]) (by simp)
   ·rename_i hl;exact Co _ (by rw[Fc,zaa hp,zaa hl];simp [HA]) (by simp)
 unfold gw;rw[Qf r (by omega) (by omega),h];simp only[zac];rw[zaa (by simp)];split
 ·rename_i YS;exact pA _ (by rw[zab (by simpa using YS)])
 ·rename_i YS;exact pA _ (by rw[zaa (by simpa using YS)])
theorem MT (r:aa) (ha:r.a.length<1000000000) (hb:r.b.length<1000000000):gw r=some (if da r=0 then MR r else [],da r):=by
 by_cases h:da r=0
 ·rw[MS r h,zab h,h]
 ·unfold gw;rw[Qf r ha hb,zaa h];simp only[zac];rw[zab (by simpa using h)]
def bI (a b:aa):Bool:=decide (a.source=b.source) && decide (a.call=b.call)
theorem pC {a b:aa}:bI a b=true↔a.source=b.source/\a.call=b.call:=by simp [bI]
theorem ni {a b:aa} (h:bI a b=true):bI b a=true:=by rw[pC] at *;exact ⟨h.1.symm,h.2.symm⟩
theorem xv {a b c:aa} (h:bI a b=true) (h':bI b c=true):bI a c=true:=by rw[pC] at *;exact ⟨h.1.trans h'.1,h.2.trans h'.2⟩
theorem zU {a x y:aa} (h:bI x y=true):bI a x=bI a y:=by
 rw[pC] at h;simp [bI,h.1,h.2]
def Lt (a b:aa):Prop:=a.source<b.source∨(a.source=b.source/\(a.call<b.call∨(a.call=b.call/\a.part<b.part)))
instance (a b:aa):Decidable (Lt a b):=by unfold Lt;infer_instance
def Le (a b:aa):Prop:=¬ Lt b a
instance (a b:aa):Decidable (Le a b):=by unfold Le;infer_instance
theorem K2 {a b:aa}:Le a b↔a.source<b.source∨(a.source=b.source/\(a.call<b.call∨(a.call=b.call/\a.part<=b.part))):=by
 unfold Le Lt;omega
theorem MU {a b c:aa} (h:Le a b) (h':Le b c):Le a c:=by rw[K2] at *;omega
theorem MV {a b:aa} (h:Lt a b):Le a b:=by rw[K2];unfold Lt at h;omega
theorem V8 {a b:aa} (h:Le a b) (hc:bI a b=true):a.part<=b.part:=by rw[K2] at h;rw[pC] at hc;omega
abbrev Ob (l:O aa):Prop:=l.Pairwise Le
def mK:List aa->aa->List aa
 | [],p=>[p]
 | r::l,p=>if Lt p r then p::r::l else r::mK l p
theorem xw:∀ (l:O aa) (p:aa),(mK l p).Perm (p::l)
 | [],p=>.refl _
 | r::l,p=>by
  unfold mK;split
  ·exact .refl _
  ·exact ((xw l p).cons r).trans (.swap _ _ _)
theorem Dh (l:O aa) (p:aa):(mK l p).length=l.length+1:=(xw l p).length_eq
theorem xx {l:O aa} {p x:aa}:x∈mK l p↔x=p∨x∈l:=by rw[(xw l p).mem_iff,zan]
theorem HB:∀ {l:O aa} {p:aa},Ob l->Ob (mK l p)
 | [],p,_=>by simp [mK,Ob]
 | r::l,p,h=>by
  unfold mK;have h2:=zav.1 h;split
  ·rename_i hp;refine zav.2 ⟨λx hx=>?_,h⟩;rcases zan.1 hx with e|hx
   ·rw[e];exact MV hp
   ·exact MU (MV hp) (h2.1 x hx)
  ·rename_i hp;refine zav.2 ⟨λx hx=>?_,HB h2.2⟩;rcases xx.1 hx with e|hx
   ·rw[e];exact hp
   ·exact h2.1 x hx
theorem Fe (q:aa->Bool) {p:aa} (hp:q p=false):∀ (l:O aa),(mK l p).filter q=l.filter q
 | []=>by simp [mK,hp]
 | r::l=>by
  unfold mK;split
  ·rw[zes (by simp [hp])]
  ·simp only[zbk,Fe q hp l]
def kM (last:Bool) (x:aa):Int->List aa->List aa×List aa
 | _,[]=>([],[])
 | n,r::l=>if bI r x=true/\r.part=n then (if last=true/\r.last=true then ([r],l) else (r::(kM last x (n+1) l).1,(kM last x (n+1) l).2)) else ((kM last x n l).1,r::(kM last x n l).2)
theorem zV (last:Bool) (x:aa):∀ (n:Int) (l:O aa),((kM last x n l).1++(kM last x n l).2).Perm l
 | _,[]=>.refl _
 | n,r::l=>by
  unfold kM;split
  ·split
   ·exact .refl _
   ·exact (zV last x (n+1) l).cons r
  ·exact (zfk).trans ((zV last x n l).cons r)
theorem Di (last:Bool) (x:aa):∀ (n:Int) (l:O aa),(kM last x n l).2.Sublist l
 | _,[]=>.slnil
 | n,r::l=>by
  unfold kM;split
  ·split
   ·exact List.sublist_cons_self _ _
   ·exact (Di last x (n+1) l).cons r
  ·exact (Di last x n l).cons_cons r
theorem Cd (last:Bool) (x:aa) (q:aa->Bool) (hq:∀ r,bI r x=true->q r=false):∀ (n:Int) (l:O aa),(kM last x n l).2.filter q=l.filter q
 | _,[]=>rfl
 | n,r::l=>by
  unfold kM;split
  ·rename_i h;split
   ·rw[zes (by simp [hq r h.1])]
   ·rw[zes (by simp [hq r h.1])];exact Cd last x q hq (n+1) l
  ·simp only[zbk,Cd last x q hq n l]
theorem nj (last:Bool) (x:aa) (q:aa->Bool) (hq:∀ r,bI r x=true->q r=true):∀ (n:Int) (l:O aa),(kM last x n (l.filter q)).1=(kM last x n l).1
 | _,[]=>rfl
 | n,r::l=>by
  by_cases h:q r=true
  ·rw[List.filter_cons_of_pos h];unfold kM;simp only[nj last x q hq (n+1) l,nj last x q hq n l];split
   ·split <;> rfl
   ·rfl
  ·rw[zes h,nj last x q hq n l]
   conv=>rhs;unfold kM
   rw[zaa (λhc=>h (hq r hc.1))]
theorem F3 (last:Bool) {x y:aa} (h:bI x y=true):∀ (n:Int) (l:O aa),kM last x n l=kM last y n l
 | _,[]=>rfl
 | n,r::l=>by
  unfold kM;rw[zU (a:=r) h,F3 last h (n+1) l,F3 last h n l]
theorem Dj (last:Bool) {x:aa}:∀ {n:Int} {l:O aa},(∀ r,r∈l->¬(bI r x=true/\r.part=n))->kM last x n l=([],l)
 | _,[],_=>rfl
 | n,r::l,h=>by
  unfold kM;rw[zaa (h r (zaj ..)),Dj last (λy hy=>h y (zai _ hy))]
theorem Qg (last:Bool) {x:aa} {n:Int} {l:O aa}:∀ {pre:O aa},(∀ r,r∈pre->¬(bI r x=true/\r.part=n))->kM last x n (pre++l)=((kM last x n l).1,pre++(kM last x n l).2)
 | [],_=>rfl
 | r::pre,h=>by
  rw[List.cons_append]
  conv=>lhs;unfold kM
  rw[zaa (h r (zaj ..)),Qg last (λy hy=>h y (zai _ hy))];rfl
theorem HC (last:Bool) {x:aa} {post:O aa} (h:∀ r,r∈post->bI r x=false):∀ {n:Int} {l:O aa},kM last x n (l++post)=((kM last x n l).1,(kM last x n l).2++post)
 | n,[]=>by rw[zbt,Dj last (λr hr hc=>by simp [h r hr] at hc)];rfl
 | n,r::l=>by
  rw[List.cons_append];unfold kM;simp only[HC last h (n:=n+1) (l:=l),HC last h (n:=n) (l:=l)];split
  ·split <;> rfl
  ·rfl
def Ce:List aa->Int
 | []=>0
 | r::l=>r.cX+Ce l
def IX (q:aa) (u:Int):aa:=⟨q.source,q.aF,q.kind,q.a,q.b,q.start,u,0,0,false,q.dh,q.bL⟩
def tZ (q:aa):aa:=IX q q.cX
def Comm (p q:aa):Prop:=p.source=q.source/\p.call=q.call/\p.kind=q.kind/\p.a=q.a/\p.b=q.b/\p.dh=q.dh/\p.bL=q.bL
instance (a b:aa):Decidable (Comm a b):=by unfold Comm;infer_instance
def im:List aa->Option aa
 | []=>none
 | q::l=>if ((q::l).all λp=>decide (p.part≠0/\da p=0/\Comm p q))=true/\da (IX q (Ce (q::l)))=0 then some (IX q (Ce (q::l))) else none
def K3:Int->List aa->Bool
 | _,[]=>true
 | n,r::l=>decide (r.part=n) && decide (r.last=l.isEmpty) && K3 (n+1) l
def kq (l:O aa):J aa:=if K3 1 l=true then im l else none
theorem Cg:kq []=none:=rfl
def fv:Nat->List aa->aa->List aa×List aa
 | 0,now,_=>([],now)
 | m+1,now,x=>match kq (kM true x 1 now).1 with
  | none=>([],now)
  | some w=>(w::(fv m (kM true x 1 now).2 x).1,(fv m (kM true x 1 now).2 x).2)
def iN (now:O aa) (r:aa):O aa×O aa:=if r.part=0 then ([r],now) else fv (now.length+2) (mK now r) r
def eP:List aa->List aa->List aa×List aa
 | now,[]=>([],now)
 | now,r::l=>((iN now r).1++(eP (iN now r).2 l).1,(eP (iN now r).2 l).2)
structure RI (l:O aa):Prop where
 FI:Ob l
 ok:∀ r,r∈l->da r=0/\r.part≠0
 nc:∀ x,kq (kM true x 1 l).1=none
theorem Aw {last:Bool} {x:aa} {n:Int} {l:O aa}:(kM last x n l).1.length+(kM last x n l).2.length=l.length:=by
 have:=(zV last x n l).length_eq
 rwa [zah] at this
theorem sF {l:O aa} {w:aa} (h:kq l=some w):l≠[]:=by intro e;rw[e,Cg] at h;cases h
theorem HD (x:aa):∀ (m:Nat) (now:O aa),now.length<m->kq (kM true x 1 (fv m now x).2).1=none/\(fv m now x).2.Sublist now/\(∀ q:aa->Bool,(∀ r,bI r x=true->q r=false)->(fv m now x).2.filter q=now.filter q)
 | 0,now,h=>by omega
 | m+1,now,h=>by
  unfold fv;split
  ·rename_i hc;exact ⟨hc,zfu _,λ_ _=>rfl⟩
  ·rename_i w hc;have hl:=Aw (last:=true) (x:=x) (n:=1) (l:=now);have hp:0<(kM true x 1 now).1.length:=zdc.2 (sF hc);obtain ⟨h1,h2,h3⟩:=HD x m (kM true x 1 now).2 (by omega);refine ⟨h1,h2.trans (Di _ _ _ _),λq hq=>?_⟩;rw[h3 q hq,Cd true x q hq]
theorem RJ {now:O aa} {r:aa} (h:RI now) (hr:da r=0):RI (iN now r).2:=by
 unfold iN;split
 ·exact h
 ·rename_i hp;obtain ⟨h1,h2,h3⟩:=HD r (now.length+2) (mK now r) (by rw[Dh];omega);refine ⟨(HB h.FI).sublist h2,λy hy=>?_,λx=>?_⟩
  ·rcases xx.1 (h2.subset hy) with e|hy
   ·rw[e];exact ⟨hr,hp⟩
   ·exact h.ok y hy
  ·by_cases hc:bI x r=true
   ·rw[F3 true hc];exact h1
   ·have hq:∀ y,bI y r=true->(λy=>bI y x) y=false:=λy hy=>by
     cases hyx:bI y x with
     | false=>simpa using hyx
     | true=>exact absurd (xv (ni hyx) hy) hc
    have e:=h3 (λy=>bI y x) hq;rw[Fe _ (by simpa using hq r (by simp [bI]))] at e;rw[←nj true x (λy=>bI y x) (λ_ h=>h),e,nj true x _ (λ_ h=>h)];exact h.nc x
theorem EA:∀ {l now:O aa},RI now->(∀ r,r∈l->da r=0)->RI (eP now l).2
 | [],_,h,_=>h
 | r::l,_,h,hl=>by
  unfold eP;exact EA (RJ h (hl r (zaj ..))) (λy hy=>hl y (zai _ hy))
abbrev MW (l:O aa):Prop:=l.Pairwise λa b=>¬(bI a b=true/\a.part=b.part)
def TS (T:O aa) (x:aa) (n:Int):J aa:=T.find? (λr=>bI r x && decide (r.part=n))
theorem RK {a b:aa} (h:¬(bI a b=true/\a.part=b.part)):¬(bI b a=true/\b.part=a.part):=λh'=>h ⟨ni h'.1,h'.2.symm⟩
theorem MW.perm {l l':O aa} (h:MW l) (p:l.Perm l'):MW l':=(p.pairwise_iff (λh=>RK h)).1 h
theorem Qh {T:O aa} (h:MW T) {x:aa} {n:Int} {r:aa}:TS T x n=some r↔r∈T/\bI r x=true/\r.part=n:=by
 constructor
 ·intro hf;have h1:=List.find?_some hf;simp at h1;exact ⟨List.mem_of_find?_eq_some hf,h1⟩
 ·intro ⟨hm,hc,hn⟩
  induction T with
  | nil=>cases hm
  | cons y T ih =>
   have h2:=zav.1 h;unfold TS;rcases zan.1 hm with e|hm
   ·rw[←e,List.find?_cons_of_pos (by simp [hc,hn])]
   ·rw[List.find?_cons_of_neg (by
     intro hy;simp at hy;exact h2.1 r hm ⟨xv hy.1 (ni hc),by omega⟩)]
    exact ih h2.2 hm
theorem TT {T T':O aa} (h:MW T) (p:T.Perm T') (x:aa) (n:Int):TS T x n=TS T' x n:=by
 apply Option.ext;intro r;rw[Qh h,Qh (h.perm p),p.mem_iff]
def ZS (T:List aa) (x:aa):Nat->Int->List aa
 | 0,_=>[]
 | m+1,n=>match TS T x n with
  | none=>[]
  | some r=>r::if r.last=true then [] else ZS T x m (n+1)
theorem xy {T T':O aa} {x y:aa} (h:∀ n,TS T x n=TS T' y n):∀ (m:Nat) (n:Int),ZS T x m n=ZS T' y m n
 | 0,_=>rfl
 | m+1,n=>by
  unfold ZS;rw[h n,xy h m (n+1)]
theorem F4 {T:O aa} {x:aa}:∀ (m:Nat) (n:Int) (r:aa),r∈ZS T x m n->r∈T/\bI r x=true
 | 0,_,r,h=>by cases h
 | m+1,n,r,h=>by
  unfold ZS at h;split at h
  ·cases h
  ·rename_i y hy;have h1:=List.find?_some hy;simp at h1;rcases zan.1 h with e|h
   ·rw[e];exact ⟨List.mem_of_find?_eq_some hy,h1.1⟩
   ·split at h
    ·cases h
    ·exact F4 m (n+1) r h
abbrev MX (T:O aa) (x:aa):O aa:=ZS T x 99 1
theorem Dk {T T':O aa} (h:MW T) (p:T.Perm T') (x:aa):MX T x=MX T' x:=xy (TT h p x) _ _
theorem V9 {T:O aa} {x y:aa} (h:bI x y=true):MX T x=MX T y:=xy (λn=>by
 unfold TS;congr 1;funext r;rw[zU (a:=r) h]) _ _
theorem Bz {C U:O aa} {x:aa} (h:∀ r,r∈C->bI r x=false) (n:Int):TS (C++U) x n=TS U x n:=by
 unfold TS;rw[List.find?_append,List.find?_eq_none.2 (λr hr=>by simp [h r hr])];rfl
theorem JC:∀ (n:Int) (l:O aa),l≠[]->K3 n l=true->l.getLast?.map (·.last)=some true
 | _,[],h,_=>absurd rfl h
 | n,[r],_,h=>by simp [K3] at h;simp [h]
 | n,r::y::l,_,h=>by
  unfold K3 at h;simp only[zat] at h;rw[List.getLast?_cons_cons];exact JC (n+1) (y::l) (by simp) h.2
theorem MY {l:O aa} {w:aa} (h:kq l=some w):l≠[]/\l.getLast?.map (·.last)=some true:=by
 have h0:=sF h;refine ⟨h0,JC 1 l h0 ?_⟩;unfold kq at h;split at h
 ·assumption
 ·cases h
def Qi (T:O aa) (w:aa) (U:O aa):Prop:=MW T/\∃ x,kq (MX T x)=some w/\T.Perm (MX T x++U)
theorem Qi.perm {T T' U:O aa} {w:aa} (h:Qi T w U) (p:T.Perm T'):Qi T' w U:=by
 obtain ⟨h1,x,h2,h3⟩:=h;refine ⟨h1.perm p,x,?_,?_⟩
 ·rw[←Dk h1 p];exact h2
 ·rw[←Dk h1 p];exact p.symm.trans h3
theorem Qi.len {T U:O aa} {w:aa} (h:Qi T w U):U.length<T.length:=by
 obtain ⟨h1,x,h2,h3⟩:=h;have:=h3.length_eq;have h4:0<(MX T x).length:=zdc.2 (sF h2);rw[zah] at this;omega
theorem Qi.dist {T U:O aa} {w:aa} (h:Qi T w U):MW U:=by
 obtain ⟨h1,x,h2,h3⟩:=h;exact (zed.1 (h1.perm h3)).2.1
theorem filter_none {p:aa->Bool} {l:O aa} (h:∀ r,r∈l->p r=false):l.filter p=[]:=zcx.2 (λr hr=>by simp [h r hr])
theorem filter_all {p:aa->Bool} {l:O aa} (h:∀ r,r∈l->p r=true):l.filter p=l:=zdv.2 h
theorem K4 (p:aa->Bool) (l:O aa):l.Perm (l.filter p++l.filter (λr=>!p r)):=(List.filter_append_perm p l).symm
theorem Qi.Wa {T U1 U2:O aa} {w1 w2:aa} (h1:Qi T w1 U1) (h2:Qi T w2 U2):(w1=w2/\U1.Perm U2)∨∃ V,Qi U1 w2 V/\Qi U2 w1 V:=by
 have d1:=h1.dist;have d2:=h2.dist;obtain ⟨hd,x,hx,px⟩:=h1;obtain ⟨_,y,hy,py⟩:=h2;by_cases hc:bI x y=true
 ·left;rw[V9 hc] at hx px;rw[hx] at hy;exact ⟨by injection hy,(List.perm_append_left_iff _).1 (px.symm.trans py)⟩
 ·right;have nx:∀ r,r∈MX T x->bI r y=false:=λr hr=>by
   cases hry:bI r y with
   | false=>rfl
   | true=>exact absurd (xv (ni (F4 _ _ r hr).2) hry) hc
  have ny:∀ r,r∈MX T y->bI r x=false:=λr hr=>by
   cases hrx:bI r x with
   | false=>rfl
   | true=>exact absurd (ni (xv (ni (F4 _ _ r hr).2) hrx)) hc
  have e1:MX U1 y=MX T y:=by
   rw[Dk hd px y];exact (xy (Bz nx) _ _).symm
  have e2:MX U2 x=MX T x:=by
   rw[Dk hd py x];exact (xy (Bz ny) _ _).symm
  have fy:=px.symm.trans py;have q1:=fy.filter (λr=>bI r y);rw[zde,zde,filter_none nx,filter_all (λr hr=>(F4 _ _ r hr).2),zbt] at q1;have p1:U1.Perm (MX T y++(U2.filter (λr=>bI r y)++U1.filter (λr=>!bI r y))):=by
   refine (K4 (λr=>bI r y) U1).trans ?_;rw[←zar];exact q1.append_right _
  refine ⟨U2.filter (λr=>bI r y)++U1.filter (λr=>!bI r y),⟨d1,y,by rw[e1];exact hy,by rw[e1];exact p1⟩,⟨d2,x,by rw[e2];exact hx,?_⟩⟩;rw[e2];have k1:T.Perm (MX T y++(MX T x++(U2.filter (λr=>bI r y)++U1.filter (λr=>!bI r y)))):=by
   refine px.trans ((p1.append_left _).trans ?_);rw[←zar,←zar (MX T y)];exact zff.append_right _
  exact (List.perm_append_left_iff _).1 (py.symm.trans k1)
inductive A3:List aa->List aa->List aa->Prop where
 | nil {T U:List aa}:T.Perm U->A3 T [] U
 | cons {T U V:List aa} {w:aa} {o:List aa}:Qi T w U->A3 U o V->A3 T (w::o) V
def NF (T:O aa):Prop:=∀ w U,¬ Qi T w U
theorem A3.perm {T T' o U:O aa} (h:A3 T o U) (p:T.Perm T'):A3 T' o U:=by
 cases h with
 | nil q=>exact .nil (p.symm.trans q)
 | cons r s=>exact .cons (r.perm p) s
theorem A3.ex:∀ (n:Nat) (T:List aa),T.length<=n->∃ o U,A3 T o U/\NF U
 | n,T,hn=>by
  by_cases h:NF T
  ·exact ⟨[],T,.nil (.refl _),h⟩
  ·simp only[NF,Classical.not_forall,Classical.not_not] at h;obtain ⟨w,U,h⟩:=h;have hl:=h.len
   match n,hn with
   | 0,hn=>omega
   | n+1,hn =>
    obtain ⟨o,V,h1,h2⟩:=A3.ex n U (by omega);exact ⟨w::o,V,.cons h h1,h2⟩
theorem A3.uniq:∀ (n:Nat) {T o1 o2 U1 U2:List aa},T.length<=n->A3 T o1 U1->NF U1->A3 T o2 U2->NF U2->o1.Perm o2/\U1.Perm U2
 | n,T,o1,o2,U1,U2,hn,h1,n1,h2,n2=>by
  cases h1 with
  | nil p1 =>
   cases h2 with
   | nil p2=>exact ⟨.refl _,p1.symm.trans p2⟩
   | cons r s=>exact absurd (r.perm p1) (n1 _ _)
  | cons r1 s1 =>
   rename_i V1 w1 q1;cases h2 with
   | nil p2=>exact absurd (r1.perm p2) (n2 _ _)
   | cons r2 s2 =>
    rename_i V2 w2 q2;have l1:=r1.len;have l2:=r2.len
    match n,hn with
    | 0,hn=>omega
    | n+1,hn =>
     rcases r1.Wa r2 with ⟨e,p⟩|⟨V,k1,k2⟩
     ·obtain ⟨a,b⟩:=A3.uniq n (by omega) s1 n1 (s2.perm p.symm) n2;rw[e];exact ⟨a.cons _,b⟩
     ·obtain ⟨o3,U3,s3,n3⟩:=A3.ex V.length V (zaq _);obtain ⟨a1,b1⟩:=A3.uniq n (by omega) s1 n1 (.cons k1 s3) n3;obtain ⟨a2,b2⟩:=A3.uniq n (by omega) s2 n2 (.cons k2 s3) n3;exact ⟨(a1.cons _).trans ((List.Perm.swap _ _ _).trans (a2.cons _).symm),b1.trans b2.symm⟩
def er:Int->List Int->List aa->List aa×List aa
 | _,_,[]=>([],[])
 | _,[],r::l=>([],r::l)
 | i,a::at',r::l=>if a=i then (r::(er (i+1) at' l).1,(er (i+1) at' l).2) else ((er (i+1) (a::at') l).1,r::(er (i+1) (a::at') l).2)
def gF (last:Bool) (x:aa):Int->Int->List aa->List Int
 | _,_,[]=>[]
 | n,i,r::l=>if bI r x=true/\r.part=n then (if last=true/\r.last=true then [i] else i::gF last x (n+1) (i+1) l) else gF last x n (i+1) l
theorem sG (i:Int) (l:O aa):er i [] l=([],l):=by cases l <;> rfl
theorem yu (last:Bool) (x:aa):∀ (n i:Int) (l:O aa),∀ a,a∈gF last x n i l->i<=a/\a<i+l.length
 | _,_,[]=>by simp [gF]
 | n,i,r::l=>by
  intro a h;unfold gF at h;simp only[zad];split at h
  ·split at h
   ·simp at h;omega
   ·rcases zan.1 h with e|h
    ·omega
    ·have:=yu last x (n+1) (i+1) l a h;omega
  ·have:=yu last x n (i+1) l a h;omega
theorem zW (last:Bool) (x:aa):∀ (n i:Int) (l:O aa),(gF last x n i l).Pairwise (· < ·)
 | _,_,[]=>.nil
 | n,i,r::l=>by
  unfold gF;split
  ·split
   ·simp
   ·refine zav.2 ⟨λa ha=>?_,zW last x (n+1) (i+1) l⟩;have:=yu last x (n+1) (i+1) l a ha;omega
  ·exact zW last x n (i+1) l
theorem O7 {i:Int} {at':O Int} {r:aa} {l:O aa} (h:∀ a,a∈at'->i+1<=a):er i at' (r::l)=((er (i+1) at' l).1,r::(er (i+1) at' l).2):=by
 cases at' with
 | nil=>rw[sG,sG]
 | cons a at' =>
  conv=>lhs;unfold er
  rw[zaa (by have:=h a (zaj ..);omega)]
theorem yw (last:Bool) (x:aa):∀ (n i:Int) (l:O aa),er i (gF last x n i l) l=kM last x n l
 | _,_,[]=>by simp [gF,er,kM]
 | n,i,r::l=>by
  unfold gF kM;split
  ·split
   ·unfold er;rw[zab rfl,sG]
   ·unfold er;rw[zab rfl,yw last x (n+1) (i+1) l]
  ·rw[O7 (λa ha=>(yu _ _ _ _ _ a ha).1),yw last x n (i+1) l]
theorem sH:∀ (i:Int) (at':O Int) (l:O aa),((er i at' l).1++(er i at' l).2).Perm l
 | _,_,[]=>by simp [er]
 | _,[],r::l=>.refl _
 | i,a::at',r::l=>by
  unfold er;split
  ·exact (sH (i+1) at' l).cons r
  ·exact (zfk).trans ((sH (i+1) (a::at') l).cons r)
def sI (l:List aa) (at':List Int):Nat->List Int
 | 0=>[]
 | m+1=>if (im (er 0 (at'.take (m+1)) l).1).isSome=true then at'.take (m+1) else sI l at' m
def Dl:List aa->List aa
 | []=>[]
 | x::l=>(im (er 0 (sI (x::l) (gF false x 1 0 (x::l)) (gF false x 1 0 (x::l)).length) (x::l)).1).toList++(er 0 (sI (x::l) (gF false x 1 0 (x::l)) (gF false x 1 0 (x::l)).length) (x::l)).2.map tZ
def dy (x:aa) (l:O aa):O aa:=l.takeWhile (λr=>bI r x)
def gf (x:aa) (l:O aa):O aa:=l.dropWhile (λr=>bI r x)
def jb (b:Int):Nat->List aa->List aa×List aa
 | 0,_=>([],[])
 | _+1,[]=>([],[])
 | m+1,x::l=>if (dy x (x::l)).any (λr=>decide (b<=r.start))=true then ((jb b m (gf x (x::l))).1,dy x (x::l)++(jb b m (gf x (x::l))).2)
  else (Dl (dy x (x::l))++(jb b m (gf x (x::l))).1,(jb b m (gf x (x::l))).2)
theorem yx (x:aa):bI x x=true:=by simp [bI]
theorem mG (x:aa) (l:O aa):dy x l++gf x l=l:=List.takeWhile_append_dropWhile
theorem HE {x:aa} {l:O aa}:∀ r,r∈dy x l->bI r x=true:=λr h=>by
 have:=List.all_takeWhile (p:=λr=>bI r x) (l:=l);rw[zbf] at this;exact this r h
theorem Dm (x:aa) (l:O aa):(gf x (x::l)).length<=l.length:=by
 unfold gf;rw[List.dropWhile_cons_of_pos (p:=λr=>bI r x) (yx x)];exact List.Sublist.length_le (zex _)
theorem JD {x:aa} {l:O aa} (h:Ob (x::l)):∀ r,r∈gf x (x::l)->bI r x=false:=by
 intro r hr;unfold gf at hr;rw[List.dropWhile_cons_of_pos (p:=λr=>bI r x) (yx x)] at hr;have h2:=zav.1 h;have hs:(l.dropWhile (λr=>bI r x)).Sublist l:=zex _;have h3:=h2.2.sublist hs;cases hd:l.dropWhile (λr=>bI r x) with
 | nil=>rw[hd] at hr;cases hr
 | cons y t =>
  have hy:bI y x=false:=by
   have:=List.head?_dropWhile_not (λr=>bI r x) l;rw[hd] at this;simpa using this
  rw[hd] at hr h3;rcases zan.1 hr with e|hr
  ·rw[e];exact hy
  ·have k1:=h2.1 y (hs.subset (by rw[hd];exact zaj ..));have k2:=(zav.1 h3).1 r hr;cases hc:bI r x with
   | false=>rfl
   | true =>
    exfalso;rw[K2] at k1 k2;rw[pC] at hc;have:¬ bI y x=true:=by rw[hy];simp
    rw[pC] at this;omega
theorem Dn (b:Int):∀ (m:Nat) (l:O aa),(jb b m l).2.Sublist l
 | 0,l=>List.nil_sublist _
 | m+1,[]=>List.nil_sublist _
 | m+1,x::l=>by
  unfold jb;have ih:=Dn b m (gf x (x::l));split
  ·have:=(zfu (dy x (x::l))).append ih
   rwa [mG] at this
  ·have:=(List.nil_sublist (dy x (x::l))).append ih
   rwa [mG] at this
theorem Ff (b:Int) (q:aa):∀ (m:Nat) (l:O aa),Ob l->l.length<=m->(jb b m l).2.filter (λr=>bI r q)=l.filter (λr=>bI r q)∨(jb b m l).2.filter (λr=>bI r q)=[]
 | 0,[],_,_=>.inl rfl
 | m+1,[],_,_=>.inl rfl
 | m+1,x::l,hs,hm=>by
  have hl:=Dm x l;have tL:Ob (gf x (x::l)):=hs.sublist (zex _);have ih:=Ff b q m (gf x (x::l)) tL (by simp only[zad] at hm;omega);have iS:=HE (x:=x) (l:=x::l);have Bv:=JD hs;have hdec:(x::l).filter (λr=>bI r q)=(dy x (x::l)).filter (λr=>bI r q)++(gf x (x::l)).filter (λr=>bI r q):=by rw[←zde,mG]
  rw[hdec];by_cases hc:bI x q=true
  ·have hz:(gf x (x::l)).filter (λr=>bI r q)=[]:=by
    refine zcx.2 (λr hr hq=>?_);have:=Bv r hr;rw[zU hc,hq] at this;cases this
   have he:(jb b m (gf x (x::l))).2.filter (λr=>bI r q)=[]:=by
    rw[hz] at ih;rcases ih with h|h <;> exact h
   unfold jb;split
   ·left;rw[zde,he,hz]
   ·right;exact he
  ·have hz:(dy x (x::l)).filter (λr=>bI r q)=[]:=zcx.2 (λr hr hq=>hc (xv (ni (iS r hr)) hq));rw[hz,zbt];unfold jb;split
   ·rw[zde,hz,zbt];exact ih
   ·exact ih
theorem TU {l:O aa} (h:RI l) (b:Int) {m:Nat} (hm:l.length<=m):RI (jb b m l).2:=by
 refine ⟨h.FI.sublist (Dn b m l),λr hr=>h.ok r ((Dn b m l).subset hr),λx=>?_⟩;rw[←nj true x (λy=>bI y x) (λ_ h=>h)];rcases Ff b x m l h.FI hm with e|e
 ·rw[e,nj true x _ (λ_ h=>h)];exact h.nc x
 ·rw[e];rfl
theorem Dp {S R α:Type} [Inhabited α] {step:S->J (S ⊕ R)} (l:O α) (idx:S->Int) (F:S->O α->J R) (I:S->O α->Prop) (hl:l.length<1000000000)
  (h0:∀ s,I s []->idx s=(l.length:Int)->∃ r,step s=some (.inr r)/\F s []=some r)
  (h1:∀ s a t,I s (a::t)->0<=idx s->idx s<(l.length:Int)->nth l (idx s).toNat=a->idx s+1+(t.length:Int)=(l.length:Int) ->
   (∃ r,step s=some (.inr r)/\F s (a::t)=some r)∨∃ s',step s=some (.inl s')/\I s' t/\idx s'=idx s+1/\F s' t=F s (a::t))
  {s:S} (hi:0<=idx s/\idx s<=(l.length:Int)) (hI:I s (l.drop (idx s).toNat)):loop step s=F s (l.drop (idx s).toNat):=by
 refine jM (step:=step) (λs=>F s (l.drop (idx s).toNat)) (λs=>(0<=idx s/\idx s<=(l.length:Int))/\I s (l.drop (idx s).toNat)) (λs=>((l.length:Int) - idx s).toNat) (λs hs=>?_) ⟨hi,hI⟩ (by omega);obtain ⟨⟨b0,b1⟩,hs⟩:=hs;by_cases cT:idx s<(l.length:Int)
 ·have hd:=oh (l:=l) (k:=(idx s).toNat) (by omega);rw[hd] at hs ⊢;rcases h1 s _ _ hs b0 cT rfl (by rw[zbh];omega) with ⟨r,e1,e2⟩|⟨s',e1,e2,e3,e4⟩
  ·exact .inl ⟨r,e1,e2⟩
  ·refine .inr ⟨s',e1,⟨by omega,?_⟩,by omega,?_⟩
   ·rw[e3,show (idx s+1).toNat=(idx s).toNat+1 from by omega];exact e2
   ·rw[e3,show (idx s+1).toNat=(idx s).toNat+1 from by omega];exact e4
 ·have he:idx s=(l.length:Int):=by omega
  rw[zdf (by omega)] at hs ⊢;exact .inl (h0 s hs he)
theorem bm {S R α:Type} [Inhabited α] {step:S->J (S ⊕ R)} (l:O α) (idx:S->Int) (F:S->O α->J R) (I:S->O α->Prop) (hl:l.length<1000000000)
  (h0:∀ s,I s []->idx s=(l.length:Int)->∃ r,step s=some (.inr r)/\F s []=some r)
  (h1:∀ s a t,I s (a::t)->0<=idx s->idx s<(l.length:Int)->nth l (idx s).toNat=a->idx s+1+(t.length:Int)=(l.length:Int) ->
   (∃ r,step s=some (.inr r)/\F s (a::t)=some r)∨∃ s',step s=some (.inl s')/\I s' t/\idx s'=idx s+1/\F s' t=F s (a::t))
  {s:S} (hi:idx s=0) (hI:I s l):loop step s=F s l:=by
 have:=Dp l idx F I hl h0 h1 (s:=s) ⟨by omega,by omega⟩ (by rw[hi];exact hI);rw[hi] at this;exact this
def Sm (r:aa):Prop:=r.a.length<=200/\r.b.length<=200
instance (r:aa):Decidable (Sm r):=by unfold Sm;infer_instance
theorem Ax (r:aa) (h:Sm r):ei r=some (da r):=by
 unfold ei;unfold Sm at h;rw[MT r (by omega) (by omega)];rfl
theorem HF (r:aa) (h:Sm r):ll r=some (da r):=by
 unfold ll;unfold Sm at h;rw[MQ r (by omega) (by omega)];rfl
theorem Ay {r:aa} (h:da r=0):Sm r:=by
 have g:=nJ h;have ha:=sE g.a;unfold Sm;rcases g.b with h|h
 ·have:=sE h;omega
 ·rw[h.2];simp;omega
theorem aa.uO (r:aa):et r.bM r.bM=true:=by simp [aa.bM,et,N8]
theorem Xx {q:aa} (h:Sm q) (u:Int):Sm (IX q u):=h
def Wb:aa×Bool:=((⟨0,0,0,([]:O uA),([]:O uA),0,0,0,0,false,0,false⟩:aa),false)
def vT:Option aa->aa×Bool
 | none=>Wb
 | some w=>(w,true)
def Xy (q p:aa):Prop:=p.part≠0/\da p=0/\Comm p q
instance (q p:aa):Decidable (Xy q p):=by unfold Xy;infer_instance
theorem MZ {q:aa} {u v:Int} (h:da (IX q v)=0) (h0:0<=u) (h1:u<=v):da (IX q u)=0:=by
 have g:=nJ h;unfold da IX at h ⊢;simp only at h ⊢;split at h;· cases h
 split at h;· cases h
 split at h;· cases h
 split at h;· cases h
 split at h;· cases h
 split at h;· cases h
 rename_i q1 q2 q3 q4 q5 q6;rw[zaa q1,zaa q2,zaa q3,zaa q4,zaa (by omega),zaa (by omega)];exact h
theorem M0 {q:aa}:∀ {t:O aa},(∀ p,p∈t->Xy q p)->0<=Ce t
 | [],_=>by simp [Ce]
 | r::t,h=>by
  have:=M0 (λp hp=>h p (zai _ hp));have:=(nJ (h r (zaj ..)).2.1).cX;simp only[Ce];omega
def RL (q:aa) (u:Int) (t:O aa):J aa:=if (t.all λp=>decide (Xy q p))=true/\da (IX q (u+Ce t))=0 then some (IX q (u+Ce t)) else none
theorem HG (q:aa) (l:O aa):im (q::l)=RL q 0 (q::l):=by
 unfold im RL;rw[Int.zero_add];rfl
theorem Dq {q r:aa} {u:Int} {t:O aa} (h:Xy q r):RL q u (r::t)=RL q (u+r.cX) t:=by
 unfold RL;have e:u+Ce (r::t)=u+r.cX+Ce t:=by simp only[Ce];omega
 rw[e,zet,zdt h,zcu]
theorem F5 {q r:aa} {u:Int} {t:O aa} (h:¬ Xy q r):RL q u (r::t)=none:=by
 unfold RL;rw[zet,zda h,zdg,zaa (by simp)]
theorem M1 {q:aa} {u:Int} {t:O aa} (h0:0<=u) (h:da (IX q u)≠0):RL q u t=none:=by
 unfold RL;rw[zaa];rintro ⟨h1,h2⟩;have hp:=M0 (q:=q) (t:=t) (λp hp=>by have:=zbf.1 h1 p hp;simpa using this);exact h (MZ h2 h0 (by omega))
theorem RM (p q:aa):et (bH.bM (⟨⟨p.source,p.call⟩,p.kind,p.a,p.b,p.dh,p.bL⟩:bH)) (bH.bM (⟨⟨q.source,q.call⟩,q.kind,q.a,q.b,q.dh,q.bL⟩:bH))=decide (Comm p q):=by
 rw[zbl,zbs];simp [bH.bM,et,N8,Comm]
theorem K5 (l:O aa) (hs:∀ r,r∈l->Sm r) (hl:l.length<=1000):gO l=some (vT (im l)):=by
 cases l with
 | nil=>rfl
 | cons q l =>
  rw[HG];unfold gO;have hq:=hs q (zaj ..);have e0:nth (q::l) (Int.toNat 0)=q:=rfl;rw[zaa (by simp;omega),af (by simp),e0];simp only[je,zac];refine bm (q::l) (λs:Int×Int=>s.1) (λs t=>some (vT (RL q s.2 t))) (λs t=>0<=s.2/\s.2<=1099511627776/\∀ r,r∈t->Sm r) (by omega) ?_ ?_ rfl ⟨by decide,by decide,hs⟩
  ·rintro ⟨i,u⟩ ⟨h0,h1,h2⟩ hi;simp only at h0 h1 hi ⊢;unfold lg iX;rw[zaa (by simp only[zak];omega)];change ∃ r,Option.map _ ((ei (IX q u)).bind _)=_/\_;rw[Ax _ (Xx hq u)];simp only[zac,RL,List.all_nil,Ce,true_and,Int.add_zero];by_cases he:da (IX q u)=0
   ·rw[zaa (by simp [he]),zab he];exact ⟨_,rfl,rfl⟩
   ·rw[zab (by simpa using he),zaa he];exact ⟨_,rfl,rfl⟩
  ·rintro ⟨i,u⟩ r t ⟨h0,h1,h2⟩ ia fz hn hlen;simp only at h0 h1 ia fz hn hlen ⊢;unfold lg;have hr:=h2 r (zaj ..);rw[zab (by simpa using fz),af ⟨ia,fz⟩,hn,Ax r hr,e0];simp only[iW,cg,kp,zac];by_cases hk:r.part≠0/\da r=0
   ·have b1:(r.part==0)=false:=by simpa using hk.1
    have b2:(da r != 0)=false:=by simp [hk.2]
    simp only[b1,b2,zcm,zdh,zby,zdm];rw[af (by simp),RM];by_cases hc:Comm r q
    ·rw[af (by omega)];have gu:=(nJ hk.2).cX;have uq:Xy q r:=⟨hk.1,hk.2,hc⟩;by_cases hu:r.cX > 1099511627776-u
     ·rw[zab (by simp [hc];omega)];refine .inl ⟨_,rfl,?_⟩;rw[Dq uq,M1 (by omega)]
      ·rfl
      ·intro he;have:=(nJ he).cX;simp only[IX] at this;omega
     ·rw[zaa (by simp [hc];omega),af (by omega),af (by omega)];refine .inr ⟨_,rfl,⟨by simp only;omega,by simp only;omega,λp hp=>h2 p (zai _ hp)⟩,rfl,?_⟩
      rw[Dq uq]
    ·rw[af (by simp [hc]),zab (by simp [hc])];refine .inl ⟨_,rfl,?_⟩;rw[F5 (λh=>hc h.2.2)];rfl
   ·have hb:((r.part==0) || ((if (!(r.part==0))=true then da r else default) != 0))=true:=by
     by_cases hp:r.part=0
     ·simp [hp]
     ·simp [hp];intro he;exact hk ⟨hp,he⟩
    simp only[hb,zci,zfd,zaz,zbw];rw[af (by simp),af (by simp),zab trivial];refine .inl ⟨_,rfl,?_⟩;rw[F5 (λh=>hk ⟨h.1,h.2.1⟩)];rfl
theorem HH (l:O aa) (hs:∀ r,r∈l->Sm r) (hl:l.length<=1000):mO l=some (vT (im l)):=by
 cases l with
 | nil =>
  unfold mO;refine bm ([]:O aa) (λs:Int×Int×Int×Int×O uA×O uA×Int×Int×Int×Bool=>s.1) (λs t=>some (vT (im []))) (λs t=>s=(0,0,0,0,([]:O uA),([]:O uA),0,0,0,false)/\t=[]) (by simp) ?_ ?_ rfl ⟨rfl,rfl⟩
  ·rintro s ⟨h,_⟩ hi;rw[h];exact ⟨_,rfl,rfl⟩
  ·rintro s a t ⟨_,h⟩;cases h
 | cons q l =>
  rw[HG];unfold mO;have hq:=hs q (zaj ..);have e0:nth (q::l) (Int.toNat 0)=q:=rfl;have hpos:(0:Int)<((q::l).length:Int):=by simp only[zad];omega
  refine bm (q::l) (λs:Int×Int×Int×Int×O uA×O uA×Int×Int×Int×Bool=>s.1) (λs t=>some (vT (RL q s.2.2.2.2.2.2.2.1 t)))
   (λs t=>(0<=s.2.2.2.2.2.2.2.1/\s.2.2.2.2.2.2.2.1<=1099511627776)/\(∀ r,r∈t->Sm r)/\(s.1=0∨(da (IX q s.2.2.2.2.2.2.2.1)=0/\s=(s.1,q.source,q.aF,q.kind,q.a,q.b,q.start,s.2.2.2.2.2.2.2.1,q.dh,q.bL)))) (by omega) ?_ ?_ rfl ⟨by decide,hs,.inl rfl⟩
  ·rintro ⟨i,c0,c1,c2,c3,c4,c5,u,ZT,ZU⟩ ⟨h0,h1,h2⟩ hi;simp only at h0 h1 h2 hi ⊢;rcases h2 with h2|⟨h2,h3⟩
   ·omega
   ·injection h3 with _ h3;injection h3 with e0 h3;injection h3 with e1 h3;injection h3 with e2 h3;injection h3 with e3 h3;injection h3 with e4 h3;injection h3 with e5 h3;injection h3 with _ h3;injection h3 with e10 e11;subst e0 e1 e2 e3 e4 e5 e10 e11;unfold rF oR;rw[zaa (by simp only[zak];omega),zdt hpos];refine ⟨_,rfl,?_⟩;simp only[RL,List.all_nil,Ce,true_and,Int.add_zero];rw[zab h2];rfl
  ·rintro ⟨i,c0,c1,c2,c3,c4,c5,u,ZT,ZU⟩ r t ⟨h0,h1,h2⟩ ia fz hn hlen;simp only at h0 h1 h2 ia fz hn hlen ⊢;clear h2;unfold rF;have hr:=h1 r (zaj ..);rw[zab (by simpa using fz),af ⟨ia,fz⟩,hn,HF r hr,e0];simp only[oQ,kp,zac];by_cases hk:r.part≠0/\da r=0
   ·have b1:(r.part==0)=false:=by simpa using hk.1
    have gu:=(nJ hk.2).cX;rw[zaa (by simp [b1,hk.2]),af (by omega),af ⟨zey _,hpos⟩];by_cases hc:Comm r q
    ·have uq:Xy q r:=⟨hk.1,hk.2,hc⟩;rw[zaa (by
      obtain ⟨a1,a2,a3,a4,a5,a6,a7⟩:=hc;simp [a1,a2,a3,a4,a5,a6,a7])]
     change (∃ r_1,((ll (IX q (u+r.cX))).bind _)=_/\_)∨∃ s',((ll (IX q (u+r.cX))).bind _)=_/\_;rw[HF _ (Xx hq _)];simp only[zac];by_cases he:da (IX q (u+r.cX))=0
     ·have ge:=(nJ he).cX;simp only[IX] at ge;rw[zaa (by simp [he]),af (by omega)];refine .inr ⟨_,rfl,⟨by simp only;omega,λp hp=>h1 p (zai _ hp),.inr ⟨he,rfl⟩⟩,rfl,?_⟩
      rw[Dq uq]
     ·rw[zab (by simpa using he)];refine .inl ⟨_,rfl,?_⟩;rw[Dq uq,M1 (by omega) he];rfl
    ·rw[zab (by
      unfold Comm at hc;simp only[zbv,zdu,Bool.and_eq_false_iff,bne_iff_ne,zer];by_cases a1:r.source=q.source
      ·by_cases a2:r.call=q.call
       ·by_cases a3:r.kind=q.kind
        ·by_cases a4:r.a=q.a
         ·by_cases a5:r.b=q.b
          ·by_cases a6:r.dh=q.dh
           ·by_cases a7:r.bL=q.bL
            ·exact absurd ⟨a1,a2,a3,a4,a5,a6,a7⟩ hc
            ·exact .inr a7
           ·exact .inl (.inr a6)
          ·exact .inl (.inl (.inr a5))
         ·exact .inl (.inl (.inl (.inr a4)))
        ·exact .inl (.inl (.inl (.inl (.inr a3))))
       ·exact .inl (.inl (.inl (.inl (.inl (.inr a2)))))
      ·exact .inl (.inl (.inl (.inl (.inl (.inl a1))))))]
     refine .inl ⟨_,rfl,?_⟩;rw[F5 (λh=>hc h.2.2)];rfl
   ·rw[zab (by
     by_cases hp:r.part=0
     ·simp [hp]
     ·simp [hp];intro he;exact hk ⟨hp,he⟩)]
    refine .inl ⟨_,rfl,?_⟩;rw[F5 (λh=>hk ⟨h.1,h.2.1⟩)];rfl
theorem Qj (b:Bool) (o:J aa):(if b=true then vT o else Wb)=vT (if b=true then o else none):=by split <;> rfl
theorem HJ (l:O aa) (hs:∀ r,r∈l->Sm r) (hl:l.length<=1000):iY l=some (vT (kq l)):=by
 unfold iY kq;rw[←Qj];refine bm l (λs:Int=>s) (λs t=>some (if K3 (s+1) t=true then vT (im l) else Wb)) (λs t=>True) (by omega) ?_ ?_ rfl trivial
 ·intro i _ hi;unfold jf gz;rw[zaa (by simp only[zak];omega),K5 l hs hl];exact ⟨_,rfl,rfl⟩
 ·intro i r t _ ia fz hn hlen;unfold jf;rw[zab (by simpa using fz),af ⟨ia,fz⟩,hn,af (by omega),af (λ_=>by omega)];have el:(i==(l.length:Int) - 1)=t.isEmpty:=by
   rw[zbl];cases t with
   | nil=>simp at hlen ⊢;omega
   | cons=>simp at hlen ⊢;omega
  rw[el];simp only[K3];by_cases hp:r.part=i+1
  ·by_cases EB:r.last=t.isEmpty
   ·rw[zaa (by simp [hp,EB]),af (by omega)];refine .inr ⟨_,rfl,trivial,rfl,?_⟩;simp [hp,EB]
   ·rw[zab (by simp [hp,EB])];refine .inl ⟨_,rfl,?_⟩;simp [hp,EB];rfl
  ·rw[zab (by simp [hp])];refine .inl ⟨_,rfl,?_⟩;simp [hp];rfl
theorem M3 (l:O aa) (hs:∀ r,r∈l->Sm r) (hl:l.length<=1000):oV l=some (vT (kq l)):=by
 unfold oV kq;rw[←Qj];refine bm l (λs:Int=>s) (λs t=>some (if K3 (s+1) t=true then vT (im l) else Wb)) (λs t=>True) (by omega) ?_ ?_ rfl trivial
 ·intro i _ hi;unfold nY lu;rw[zaa (by simp only[zak];omega),HH l hs hl];exact ⟨_,rfl,rfl⟩
 ·intro i r t _ ia fz hn hlen;unfold nY;rw[zab (by simpa using fz),af ⟨ia,fz⟩,hn,af (by omega),af (λ_=>⟨ia,fz⟩),af (λ_=>by omega)];have el:((i+1)==(l.length:Int))=t.isEmpty:=by
   rw[zbl];cases t with
   | nil=>simp at hlen ⊢;omega
   | cons=>simp at hlen ⊢;omega
  rw[el];simp only[K3];by_cases hp:r.part=i+1
  ·by_cases EB:r.last=t.isEmpty
   ·rw[zaa (by simp [hp,EB]),af (by omega)];refine .inr ⟨_,rfl,trivial,rfl,?_⟩;simp [hp,EB]
   ·rw[zab (by simp [hp,EB])];refine .inl ⟨_,rfl,?_⟩;simp [hp,EB];rfl
  ·rw[zab (by simp [hp])];refine .inl ⟨_,rfl,?_⟩;simp [hp];rfl
theorem M4 (l:O aa) (x:aa) (last:Bool) (hl:l.length<=1000):pw l x last=some (gF last x 1 0 l):=by
 unfold pw;refine bm l (λs:O Int×Int=>s.2) (λs t=>some (s.1++gF last x ((s.1.length:Int)+1) s.2 t)) (λs t=>(s.1.length:Int)<=s.2) (by omega) ?_ ?_ rfl (by simp)
 ·rintro ⟨out,i⟩ h hi;simp only at h hi ⊢;unfold qz;rw[zaa (by simp only[zak];omega)];exact ⟨_,rfl,by simp [gF]⟩
 ·rintro ⟨out,i⟩ r t h ia fz hn hlen;simp only at h ia fz hn hlen ⊢;unfold qz;rw[zab (by simpa using fz),af ⟨ia,fz⟩,hn];simp only[oQ,zac];rw[af (λ_=>⟨ia,fz⟩),af (λ_=>by omega)];have ec:((r.source==x.source) && (r.call==x.call))=bI r x:=by rw[zbl,pC];simp
  rw[ec,show gF last x ((out.length:Int)+1) i (r::t)=(if bI r x=true/\r.part=(out.length:Int)+1 then (if last=true/\r.last=true then [i] else i::gF last x ((out.length:Int)+1+1) (i+1) t) else gF last x ((out.length:Int)+1) (i+1) t) from rfl];by_cases hc:bI r x=true/\r.part=(out.length:Int)+1
  ·rw[zab (by simp [hc.1,hc.2]),af (by simp only[zad,zas];omega),af (λ_=>⟨ia,fz⟩),zab hc];by_cases EB:last=true/\r.last=true
   ·rw[zab (by simp [EB.1,EB.2]),zab EB];exact .inl ⟨_,rfl,rfl⟩
   ·rw[zaa (by simpa using EB),zaa EB,af (by omega)];refine .inr ⟨_,rfl,by simp only[zah,zad,zas];omega,rfl,?_⟩;simp
  ·rw[zaa (by simpa using hc),zaa hc,af (by omega)];exact .inr ⟨_,rfl,by simp only;omega,rfl,rfl⟩
theorem K6 (l:O aa) (at':O Int) (hl:l.length<=1000) (ha:at'.length<=1000):qJ l at'=some (er 0 at' l):=by
 unfold qJ;refine (bm l (λs:O aa×O aa×Int×Int=>s.2.2.2) (λs t=>some (s.1++(er s.2.2.2 (at'.drop s.2.2.1.toNat) t).1,s.2.1++(er s.2.2.2 (at'.drop s.2.2.1.toNat) t).2))
  (λs t=>(0<=s.2.2.1/\s.2.2.1<=(at'.length:Int))/\(s.1.length:Int)<=s.2.2.2/\(s.2.1.length:Int)<=s.2.2.2) (by omega) ?_ ?_ rfl (by simp)).trans (by simp)
 ·rintro ⟨out,rest,k,i⟩ ⟨h0,h1⟩ hi;simp only at h0 h1 hi ⊢;unfold sQ;rw[zaa (by simp only[zak];omega)];exact ⟨_,rfl,by cases at'.drop k.toNat <;> simp [er]⟩
 ·rintro ⟨out,rest,k,i⟩ r t ⟨h0,h1,h2⟩ ia fz hn hlen;simp only at h0 h1 h2 ia fz hn hlen ⊢;unfold sQ;rw[zab (by simpa using fz),af (λh=>by simp at h;omega),af ⟨ia,fz⟩,hn];by_cases hk:k<(at'.length:Int)
  ·have hd:=oh (l:=at') (k:=k.toNat) (by omega);rw[hd];by_cases he:nth at' k.toNat=i
   ·rw[zab (by simp [he,hk]),af (by simp only[zad,zas];omega),af (by omega),af (by omega)];refine .inr ⟨_,rfl,⟨by simp only;omega,by simp only[zah,zad,zas];omega,by simp only;omega⟩,rfl,?_⟩;simp only
    conv=>rhs;unfold er
    rw[zab he,show (k+1).toNat=k.toNat+1 from by omega];simp
   ·rw[zaa (by simp [he]),af ⟨ia,fz⟩,af (by simp only[zad,zas];omega),af (by omega)];refine .inr ⟨_,rfl,⟨by simp only;omega,by simp only;omega,by simp only[zah,zad,zas];omega⟩,rfl,?_⟩;simp only;rw[hd]
    conv=>rhs;unfold er
    rw[zaa he];simp
  ·rw[zaa (by simp [hk]),af ⟨ia,fz⟩,af (by simp only[zad,zas];omega),af (by omega)];refine .inr ⟨_,rfl,⟨by simp only;omega,by simp only;omega,by simp only[zah,zad,zas];omega⟩,rfl,?_⟩;simp only;rw[zdf (by omega),sG,sG];simp
theorem vL (last:Bool) (x:aa):∀ (n i:Int) (l:O aa),(gF last x n i l).length<=l.length
 | _,_,[]=>zaq _
 | n,i,r::l=>by
  have h1:=vL last x (n+1) (i+1) l;have h2:=vL last x n (i+1) l;unfold gF;split
  ·split <;> simp only[zad,zas] <;> omega
  ·simp only[zad];omega
theorem O8 {last:Bool} {x:aa} {n:Int} {l:O aa} (h:∀ r,r∈l->Sm r):(∀ r,r∈(kM last x n l).1->Sm r)/\(∀ r,r∈(kM last x n l).2->Sm r):=by
 have hp:=zV last x n l;exact ⟨λr hr=>h r (hp.mem_iff.1 (zbc.2 (.inl hr))),λr hr=>h r (hp.mem_iff.1 (zbc.2 (.inr hr)))⟩
theorem kB {α:Type} [Inhabited α] {l:O α} {k:Nat} (h:k<l.length):nth l k∈l:=by rw[og h];exact zfh h
theorem fx {α:Type} [Inhabited α] {a:α} {t:O α} {j:Nat}:nth (a::t) (j+1)=nth t j:=by simp [nth]
theorem fX {α:Type} [Inhabited α] {a:α} {t:O α}:nth (a::t) 0=a:=by simp [nth]
theorem RN (a b:aa):rJ a b=some (decide (Lt a b)):=by
 unfold rJ;by_cases h1:a.source=b.source
 ·rw[zaa (by simp [h1])];by_cases h2:a.call=b.call
  ·rw[zaa (by simp [h2])];congr 1;rw[zbl,zbs,zbs];unfold Lt;omega
  ·rw[zab (by simpa using h2)];congr 1;rw[zbl,zbs,zbs];unfold Lt;omega
 ·rw[zab (by simpa using h1)];congr 1;rw[zbl,zbs,zbs];unfold Lt;omega
def ZV (l:O aa) (t:O aa):Bool:=t.all λx=>(kq (kM true x 1 l).1).isNone
def okB (r:aa):Bool:=decide (r.part≠0) && decide (da r=0)
def FJ:Option aa->List aa->Bool
 | _,[]=>true
 | none,r::t=>okB r && FJ (some r) t
 | some y,r::t=>okB r && !decide (Lt r y) && FJ (some r) t
theorem HK:∀ (o:J aa) (t:O aa),FJ o t=true↔Ob (o.toList++t)/\∀ r,r∈t->da r=0/\r.part≠0
 | o,[]=>by cases o <;> simp [FJ,Ob]
 | none,r::t=>by
  have ih:=HK (some r) t;simp only[FJ,okB,zat,zak,ih,zei,zea,zbt,zbr,zan,forall_eq_or_imp];constructor
  ·intro h;exact ⟨h.2.1,⟨h.1.2,h.1.1⟩,h.2.2⟩
  ·intro h;exact ⟨⟨h.2.1.2,h.2.1.1⟩,h.1,h.2.2⟩
 | some y,r::t=>by
  have ih:=HK (some r) t;simp only[FJ,okB,zat,zak,ih,zea,zbr,zan,forall_eq_or_imp,zdu,zct];constructor
  ·rintro ⟨⟨⟨h1,h2⟩,h3⟩,h4,h5⟩;refine ⟨zav.2 ⟨λz hz=>?_,h4⟩,⟨h2,h1⟩,h5⟩;rcases zan.1 hz with e|hz
   ·rw[e];exact h3
   ·exact MU h3 ((zav.1 h4).1 z hz)
  ·rintro ⟨h1,h2,h3⟩;have h4:=zav.1 h1;exact ⟨⟨⟨h2.2,h2.1⟩,h4.1 r (zaj ..)⟩,h4.2,h3⟩
theorem F6 (l:O aa):(FJ none l && ZV l l)=true↔RI l:=by
 rw[zat,HK];simp only[zei,zbt,ZV,zbf,Option.isNone_iff_eq_none];constructor
 ·rintro ⟨⟨h1,h2⟩,h3⟩;refine ⟨h1,h2,λx=>?_⟩;by_cases hx:∃ r,r∈l/\bI r x=true
  ·obtain ⟨r,hr,hc⟩:=hx;rw[F3 true (ni hc)];exact h3 r hr
  ·rw[Dj true (λr hr hc=>hx ⟨r,hr,hc.1⟩)];rfl
 ·rintro ⟨h1,h2,h3⟩;exact ⟨⟨h1,h2⟩,λx _=>h3 x⟩
theorem p_cmp (x y:Int):gM x y=some (if x<y then -1 else if y<x then 1 else 0):=by
 unfold gM np;simp only[zac,zft,zaz,zbw,zak,gt_iff_lt];split
 ·rfl
 ·split <;> rfl
theorem p_or (l:O Int) (hl:l.length<=1000):rp l=some ((l.find? (λx=>x != 0)).getD 0):=by
 unfold rp;refine bm l (λs:Int=>s) (λs t=>some ((t.find? (λx=>x != 0)).getD 0)) (λs t=>True) (by omega) ?_ ?_ rfl trivial
 ·intro i _ hi;unfold qs;rw[zaa (by simp only[zak];omega)];exact ⟨_,rfl,rfl⟩
 ·intro i r t _ ia fz hn hlen;unfold qs;rw[zab (by simpa using fz),af ⟨ia,fz⟩,hn];by_cases h:r=0
  ·rw[zaa (by simp [h]),af (by omega)];refine .inr ⟨_,rfl,trivial,rfl,?_⟩;rw[List.find?_cons_of_neg (by simp [h])]
  ·rw[zab (by simpa using h)];refine .inl ⟨_,rfl,?_⟩;rw[List.find?_cons_of_pos (by simpa using h)];rfl
theorem TV (a b:aa):∃ c,j0 a b=some c/\(c<=0↔¬ Lt b a):=by
 unfold j0;simp only[p_cmp,zac];rw[p_or _ (by simp)];refine ⟨_,rfl,?_⟩;unfold Lt;by_cases h1:a.source<b.source
 ·simp [h1] <;> omega
 ·by_cases h2:b.source<a.source
  ·simp [h1,h2]
  ·by_cases h3:a.call<b.call
   ·simp [h1,h2,h3] <;> omega
   ·by_cases h4:b.call<a.call
    ·simp [h1,h2,h3,h4] <;> omega
    ·by_cases h5:a.part<b.part
     ·simp [h1,h2,h3,h4,h5] <;> omega
     ·by_cases h6:b.part<a.part
      ·simp [h1,h2,h3,h4,h5,h6] <;> omega
      ·simp [h1,h2,h3,h4,h5,h6] <;> omega
def yH (x:aa):aK:=⟨x.source,x.call⟩
theorem Az (r x:aa):et (aK.bM ⟨r.source,r.call⟩) (aK.bM (yH x))=bI r x:=by
 rw[zbl,pC];simp [aK.bM,yH,et,N8]
def nC (x:aa):Int->List aa->Int
 | _,[]=>-1
 | i,r::t=>if bI r x=true then i else nC x (i+1) t
def runN (x:aa):List aa->Nat
 | []=>0
 | r::t=>if bI r x=true then runN x t+1 else 0
theorem Wc (l:O aa) (x:aa) (hl:l.length<=1000):rq l (yH x)=some (nC x 0 l):=by
 unfold rq;refine bm l (λs:Int=>s) (λs t=>some (nC x s t)) (λs t=>True) (by omega) ?_ ?_ rfl trivial
 ·intro i _ hi;unfold qt;rw[zaa (by simp only[zak];omega)];exact ⟨_,rfl,rfl⟩
 ·intro i r t _ ia fz hn hlen;unfold qt;rw[zab (by simpa using fz),af ⟨ia,fz⟩,hn];simp only[iI,cg,zac,Az];by_cases h:bI r x=true
  ·rw[zab h];exact .inl ⟨_,rfl,by simp [nC,h]⟩
  ·rw[zaa h,af (by omega)];exact .inr ⟨_,rfl,trivial,rfl,by simp [nC,h]⟩
theorem BD:∀ (x:aa) (i:Int) (t:O aa),nC x i t=-1∨(i<=nC x i t/\nC x i t<i+t.length)
 | x,i,[]=>.inl rfl
 | x,i,r::t=>by
  unfold nC;have:=BD x (i+1) t;simp only[zad];split <;> omega
theorem ZW (l:O aa) (x:aa) (hl:l.length<=1000):mr l (yH x)=some (if nC x 0 l<0 then (0,0) else (nC x 0 l,nC x 0 l+runN x (l.drop (nC x 0 l).toNat))):=by
 unfold mr;rw[Wc l x hl];have hi:=BD x 0 l;simp only[zac,zak];split
 ·rfl
 ·refine Dp l (λs:Int=>s) (λs t=>some (nC x 0 l,s+(runN x t:Int))) (λs t=>True) (by omega) ?_ ?_ (s:=nC x 0 l) (by omega) trivial
  ·intro i _ hi;unfold lY;rw[af (λh=>by simp at h;omega)];simp only[cG,hi,Int.lt_irrefl,zfm,zaz,zbw,zac,zdg];exact ⟨_,rfl,by simp [runN,hi]⟩
  ·intro i r t _ ia fz hn hlen;unfold lY;rw[af (λ_=>⟨ia,fz⟩),hn];simp only[cG,fz,decide_true,zby,cg,zac,zcu,Az];by_cases h:bI r x=true
   ·rw[zab h,af (by omega)];refine .inr ⟨_,rfl,trivial,rfl,?_⟩;simp only[runN,h,zby];congr 2;omega
   ·rw[zaa h];refine .inl ⟨_,rfl,?_⟩;simp [runN,h]
theorem TW (l:O aa) (x:aa) (hl:l.length<=1000):nq (yH x) l=some (nC x 0 l):=by
 unfold nq;refine bm l (λs:Int=>s) (λs t=>some (nC x s t)) (λs t=>True) (by omega) ?_ ?_ rfl trivial
 ·intro i _ hi;unfold mW;rw[zaa (by simp only[zak];omega)];exact ⟨_,rfl,rfl⟩
 ·intro i r t _ ia fz hn hlen;unfold mW;rw[zab (by simpa using fz),af ⟨ia,fz⟩,af (by omega),hn];simp only[iI,cg,zac,Az];by_cases h:bI r x=true
  ·rw[zab h];exact .inl ⟨_,rfl,by simp [nC,h]⟩
  ·rw[zaa h,af (by omega)];exact .inr ⟨_,rfl,trivial,rfl,by simp [nC,h]⟩
theorem Qk:∀ (x:aa) (i:Int) (t:O aa),nC x i t=-1∨(i<=nC x i t/\nC x i t<i+t.length)
 | x,i,[]=>.inl rfl
 | x,i,r::t=>by
  unfold nC;have:=Qk x (i+1) t;simp only[zad];split <;> omega
theorem Wd (l:O aa) (x:aa) (hl:l.length<=1000):mu (yH x) l=some (if nC x 0 l<0 then (0,0) else (nC x 0 l,nC x 0 l+runN x (l.drop (nC x 0 l).toNat))):=by
 unfold mu;rw[TW l x hl];have hi:=Qk x 0 l;simp only[zac,zak];split
 ·rfl
 ·refine Dp l (λs:Int=>s) (λs t=>some (nC x 0 l,s+(runN x t:Int))) (λs t=>True) (by omega) ?_ ?_ (s:=nC x 0 l) (by omega) trivial
  ·intro i _ hi;unfold l7;rw[af (λh=>by simp at h;omega),af (λh=>by simp at h;omega)];simp only[cG,hi,Int.lt_irrefl,zfm,zaz,zbw,zac,zdg];exact ⟨_,rfl,by simp [runN,hi]⟩
  ·intro i r t _ ia fz hn hlen;unfold l7;rw[af (λ_=>⟨ia,fz⟩),af (λ_=>by omega),hn];simp only[cG,fz,decide_true,zby,cg,zac,zcu,Az];by_cases h:bI r x=true
   ·rw[zab h,af (by omega)];refine .inr ⟨_,rfl,trivial,rfl,?_⟩;simp only[runN,h,zby];congr 2;omega
   ·rw[zaa h];refine .inl ⟨_,rfl,?_⟩;simp [runN,h]
def fI (k:Int):Int->List aa->Option Int
 | _,[]=>none
 | i,r::t=>if r.part=k then some i else fI k (i+1) t
theorem F7 {k:Int}:∀ {i:Int} {l:O aa} {j:Int},fI k i l=some j->i<=j/\j<i+l.length/\(nth l (j-i).toNat).part=k
 | i,[],j,h=>by cases h
 | i,r::l,j,h=>by
  unfold fI at h;simp only[zad];split at h
  ·rename_i hk;cases h;refine ⟨by omega,by omega,?_⟩;rw[show (i-i).toNat=0 from by omega,fX];exact hk
  ·have ih:=F7 h;refine ⟨by omega,by omega,?_⟩;rw[show (j-i).toNat=(j-(i+1)).toNat+1 from by omega,fx];exact ih.2.2
theorem zX (last:Bool) (x:aa) (n:Int):∀ {i:Int} {l:List aa},Ob l->(∀ r,r∈l->bI r x=true)->gF last x n i l=match fI n i l with
  | none=>[]
  | some j=>j::if last=true/\(nth l (j-i).toNat).last=true then [] else gF last x (n+1) i l
 | i,[],_,_=>rfl
 | i,r::l,h,hc=>by
  have h2:=zav.1 h;have hr:=hc r (zaj ..);have hc2:∀ r,r∈l->bI r x=true:=λy hy=>hc y (zai _ hy)
  by_cases hp:r.part=n
  ·have e1:fI n i (r::l)=some i:=by unfold fI;rw[zab hp]
   have e2:gF last x (n+1) i (r::l)=gF last x (n+1) (i+1) l:=by
    conv=>lhs;unfold gF
    rw[zaa (by omega)]
   simp only[e1,e2];rw[show (i-i).toNat=0 from by omega,fX]
   conv=>lhs;unfold gF
   rw[zab ⟨hr,hp⟩];split <;> rfl
  ·have e1:fI n i (r::l)=fI n (i+1) l:=by conv=>lhs;unfold fI;rw[zaa hp]
   have e0:gF last x n i (r::l)=gF last x n (i+1) l:=by
    conv=>lhs;unfold gF
    rw[zaa (λh=>hp h.2)]
   rw[e0,e1,zX last x n h2.2 hc2];cases hf:fI n (i+1) l with
   | none=>rfl
   | some j =>
    have hj:=F7 hf;have hm:nth l (j-(i+1)).toNat∈l:=kB (by omega);have e2:gF last x (n+1) i (r::l)=gF last x (n+1) (i+1) l:=by
     conv=>lhs;unfold gF
     rw[zaa (λh=>by
      have:=V8 (h2.1 _ hm) (xv hr (ni (hc2 _ hm)));omega)]
    simp only[e2];rw[show (j-i).toNat=(j-(i+1)).toNat+1 from by omega,fx]
theorem ZX (l:O aa) (x:aa) (last:Bool) (hl:l.length<=1000) (hs:Ob l) (hc:∀ r,r∈l->bI r x=true) (hp:∀ r,r∈l->r.part<=99):gN l last=some (gF last x 1 0 l):=by
 unfold gN;refine bm l (λs:Int×O (Int×Int)=>s.1) (λs t=>some (gF last x 1 0 l)) (λs t=>∀ k,(aC s.2 k).or (fI k s.1 t)=fI k 0 l) (by omega) ?_ ?_ rfl (λk=>by rw[r9];rfl)
 ·rintro ⟨i,m⟩ hm hi;simp only at hm hi ⊢;have yJ:∀ k,aC m k=fI k 0 l:=λk=>by rw[←hm k];simp [fI]
  unfold iu fE;rw[zaa (by simp only[zak];omega)];have:loop (λs:O Int×Int=>ir l last m s.1 s.2) ([],1)=some (gF last x 1 0 l):=by
   refine (jM (λs:O Int×Int=>some (s.1++gF last x s.2 0 l)) (λs=>1<=s.2/\s.2<=100/\(s.1.length:Int)<=s.2-1) (λs=>(100-s.2).toNat) ?_ ⟨by decide,by decide,by decide⟩ (by decide)).trans (by simp);rintro ⟨out,k⟩ ⟨h0,h1,h2⟩;simp only at h0 h1 h2 ⊢;unfold ir;rw[yJ k,zX last x k hs hc];cases hf:fI k 0 l with
   | none =>
    rw[zab (by simp)];exact .inl ⟨_,rfl,by simp⟩
   | some j =>
    have hj:=F7 hf;have hk:=hp _ (kB (l:=l) (k:=(j-0).toNat) (by omega));rw[zaa (by simp),af (by simp only[zad,zas];omega)];simp only[zcj];rw[af (λ_=>by omega),show (j-0).toNat=j.toNat from by omega];by_cases EB:last=true/\(nth l j.toNat).last=true
    ·rw[zab (by simp [EB.1,EB.2]),zab EB];exact .inl ⟨_,rfl,rfl⟩
    ·rw[zaa (by simpa using EB),zaa EB,af (by omega)];refine .inr ⟨_,rfl,⟨by simp only;omega,by simp only;omega,by simp only[zah,zad,zas];omega⟩,by simp only;omega,?_⟩;simp
  rw[this];exact ⟨_,rfl,rfl⟩
 ·rintro ⟨i,m⟩ r t hm ia fz hn hlen;simp only at hm ia fz hn hlen ⊢;unfold iu;rw[zab (by simpa using fz),af ⟨ia,fz⟩,hn];cases ha:aC m r.part with
  | none =>
   rw[zab (by simp),af (by omega)];refine .inr ⟨_,rfl,λk=>?_,rfl,by first|rfl|trivial⟩;simp only;rw[dV,←hm k];by_cases hk:r.part=k
   ·rw[zab (by simp [hk])];subst hk;simp [ha,fI]
   ·rw[zaa (by simpa using λh=>hk h.symm)];simp [fI,hk]
  | some j =>
   rw[zaa (by simp),af (by omega)];refine .inr ⟨_,rfl,λk=>?_,rfl,by first|rfl|trivial⟩;simp only;rw[←hm k];by_cases hk:r.part=k
   ·subst hk;simp [ha]
   ·simp [fI,hk]
theorem Ql (l:O aa) (x:aa) (last:Bool) (hl:l.length<=1000) (hs:Ob l) (hc:∀ r,r∈l->bI r x=true) (hp:∀ r,r∈l->r.part<=99):gQ l last=some (gF last x 1 0 l):=by
 unfold gQ;refine bm l (λs:Int×O (Int×Int)=>s.1) (λs t=>some (gF last x 1 0 l)) (λs t=>∀ k,(aC s.2 k).or (fI k s.1 t)=fI k 0 l) (by omega) ?_ ?_ rfl (λk=>by rw[r9];rfl)
 ·rintro ⟨i,m⟩ hm hi;simp only at hm hi ⊢;have yJ:∀ k,aC m k=fI k 0 l:=λk=>by rw[←hm k];simp [fI]
  unfold iw fF;rw[zaa (by simp only[zak];omega)];have:loop (λs:O Int×Int=>iv l last m s.1 s.2) ([],1)=some (gF last x 1 0 l):=by
   refine (jM (λs:O Int×Int=>some (s.1++gF last x s.2 0 l)) (λs=>1<=s.2/\s.2<=100/\(s.1.length:Int)<=s.2-1) (λs=>(100-s.2).toNat) ?_ ⟨by decide,by decide,by decide⟩ (by decide)).trans (by simp);rintro ⟨out,k⟩ ⟨h0,h1,h2⟩;simp only at h0 h1 h2 ⊢;unfold iv;rw[yJ k,zX last x k hs hc];cases hf:fI k 0 l with
   | none =>
    rw[zab (by simp)];exact .inl ⟨_,rfl,by simp⟩
   | some j =>
    have hj:=F7 hf;have hk:=hp _ (kB (l:=l) (k:=(j-0).toNat) (by omega));rw[zaa (by simp),af (by simp only[zad,zas];omega)];simp only[zcj];rw[af (λ_=>by omega),af (λ_=>by omega),show (j-0).toNat=j.toNat from by omega];by_cases EB:last=true/\(nth l j.toNat).last=true
    ·rw[zab (by simp [EB.1,EB.2]),zab EB];exact .inl ⟨_,rfl,rfl⟩
    ·rw[zaa (by simpa using EB),zaa EB,af (by omega)];refine .inr ⟨_,rfl,⟨by simp only;omega,by simp only;omega,by simp only[zah,zad,zas];omega⟩,by simp only;omega,?_⟩;simp
  rw[this];exact ⟨_,rfl,rfl⟩
 ·rintro ⟨i,m⟩ r t hm ia fz hn hlen;simp only at hm ia fz hn hlen ⊢;unfold iw;rw[zab (by simpa using fz),af ⟨ia,fz⟩,af (by omega),hn];cases ha:aC m r.part with
  | none =>
   rw[zab (by simp),af (by omega)];refine .inr ⟨_,rfl,λk=>?_,rfl,by first|rfl|trivial⟩;simp only;rw[dV,←hm k];by_cases hk:r.part=k
   ·rw[zab (by simp [hk])];subst hk;simp [ha,fI]
   ·rw[zaa (by simpa using λh=>hk h.symm)];simp [fI,hk]
  | some j =>
   rw[zaa (by simp),af (by omega)];refine .inr ⟨_,rfl,λk=>?_,rfl,by first|rfl|trivial⟩;simp only;rw[←hm k];by_cases hk:r.part=k
   ·subst hk;simp [ha]
   ·simp [fI,hk]
def tE (at':List Int):Int->List aa->List aa
 | _,[]=>[]
 | i,r::t=>if i∈at' then tE at' (i+1) t else r::tE at' (i+1) t
theorem HL {a b:O Int}:∀ {i:Int} {l:O aa},(∀ j,i<=j->(j∈a↔j∈b))->tE a i l=tE b i l
 | _,[],_=>rfl
 | i,r::l,h=>by
  have ih:=HL (i:=i+1) (l:=l) (λj hj=>h j (by omega));unfold tE;simp only[h i (zey _),ih]
theorem M5:∀ (i:Int) (l:O aa),tE [] i l=l
 | _,[]=>rfl
 | i,r::l=>by unfold tE;rw[zaa (by simp),M5]
theorem AA:∀ (i:Int) (at':O Int) (l:O aa),at'.Pairwise (· < ·)->(∀ a,a∈at'->i<=a/\a<i+l.length)->er i at' l=(at'.map λj=>nth l (j-i).toNat,tE at' i l)
 | i,[],l,_,_=>by rw[sG,M5];rfl
 | i,a::at',[],_,h=>by have:=h a (zaj ..);simp at this;omega
 | i,a::at',r::l,hp,h=>by
  have h2:=zav.1 hp;have ha:=h a (zaj ..);unfold er;by_cases e:a=i
  ·subst e;rw[zab rfl,AA (a+1) at' l h2.2 (λb hb=>by
    have h3:=h b (zai _ hb);have h4:=h2.1 b hb;simp only[zad] at h3;omega)]
   have e1:(at'.map λj=>nth (r::l) (j-a).toNat)=at'.map λj=>nth l (j-(a+1)).toNat:=zgh (λb hb=>by
    have h4:=h2.1 b hb;rw[show (b-a).toNat=(b-(a+1)).toNat+1 from by omega,fx])
   have e2:tE (a::at') a (r::l)=tE at' (a+1) l:=by
    conv=>lhs;unfold tE
    rw[zab (zaj ..)];exact HL (λj hj=>by simp;omega)
   simp only[zao,e1,e2];rw[show (a-a).toNat=0 from by omega,fX]
  ·have pL:∀ b,b∈a::at'->i+1<=b/\b<i+1+l.length:=λb hb=>by
    have h3:=h b hb;simp only[zad] at h3;rcases zan.1 hb with hb|hb
    ·omega
    ·have:=h2.1 b hb;omega
   rw[zaa e,AA (i+1) (a::at') l hp pL];have e1:((a::at').map λj=>nth (r::l) (j-i).toNat)=(a::at').map λj=>nth l (j-(i+1)).toNat:=zgh (λb hb=>by
    have h4:=pL b hb;rw[show (b-i).toNat=(b-(i+1)).toNat+1 from by omega,fx])
   have e2:tE (a::at') i (r::l)=r::tE (a::at') (i+1) l:=by
    conv=>lhs;unfold tE
    rw[zaa (λhb=>by have:=pL i hb;omega)]
   rw[e1,e2]
theorem TX (l:O aa) (at':O Int) (hl:l.length<=1000) (hal:at'.length<=1000) (hp:at'.Pairwise (· < ·)) (hb:∀ a,a∈at'->0<=a/\a<(l.length:Int)):jP l at'=some (er 0 at' l):=by
 unfold jP;rw[AA 0 at' l hp (λa ha=>by have:=hb a ha;omega)];refine bm at' (λs:O aa×Int×O (Int×Bool)=>s.2.1) (λs t=>some (at'.map (λj=>nth l (j-0).toNat),tE at' 0 l))
  (λs t=>(s.1.length:Int)<=s.2.1/\s.1++t.map (λj=>nth l (j-0).toNat)=at'.map (λj=>nth l (j-0).toNat)/\(∀ j,((aC s.2.2 j).getD false=true∨j∈t)↔j∈at')/\(∀ a,a∈t->0<=a/\a<(l.length:Int))) (by omega) ?_ ?_ (s:=(([]:O aa),(0:Int),([]:O (Int×Bool)))) rfl ⟨by simp,rfl,λj=>by simp [r9],hb⟩
 ·rintro ⟨out,i,m⟩ ⟨h1,h2,h3,h4⟩ hi;simp only at h1 h2 h3 h4 hi ⊢;have hm:∀ j,(aC m j).getD false=decide (j∈at'):=λj=>by rw[zbl,zbs,←h3 j];simp
  rw[zbg,zbp] at h2;unfold lZ jw;rw[zaa (by simp only[zak];omega),←h2];have:loop (λs:O aa×Int=>jv l out m s.1 s.2) ([],0)=some (out,tE at' 0 l):=by
   refine (bm l (λs:O aa×Int=>s.2) (λs t=>some (out,s.1++tE at' s.2 t)) (λs t=>(s.1.length:Int)<=s.2) (by omega) ?_ ?_ rfl (by simp)).trans (by simp)
   ·rintro ⟨oth,k⟩ hq hk;simp only at hq hk ⊢;unfold jv;rw[zaa (by simp only[zak];omega)];exact ⟨_,rfl,by simp [tE]⟩
   ·rintro ⟨oth,k⟩ r t hq Mu cH hn hlen;simp only at hq Mu cH hn hlen ⊢;unfold jv;rw[zab (by simpa using cH),af ⟨Mu,cH⟩,hn,hm k];by_cases qY:k∈at'
    ·rw[zaa (by simpa using qY),af (by omega)];refine .inr ⟨_,rfl,by simp only;omega,rfl,?_⟩;simp [tE,qY]
    ·rw[zab (by simpa using qY),af (by simp only[zad,zas];omega),af (by omega)];refine .inr ⟨_,rfl,by simp only[zah,zad,zas];omega,rfl,?_⟩;simp [tE,qY]
  rw[this];exact ⟨_,rfl,rfl⟩
 ·rintro ⟨out,i,m⟩ a t ⟨h1,h2,h3,h4⟩ ia fz hn hlen;simp only at h1 h2 h3 h4 ia fz hn hlen ⊢;have ha:=h4 a (zaj ..);unfold lZ;rw[zab (by simpa using fz),af ⟨ia,fz⟩,hn,af ha,af (by simp only[zad,zas];omega),af (by omega)];refine .inr ⟨_,rfl,⟨?_,?_,λj=>?_,λb hb=>h4 b (zai _ hb)⟩,rfl,by first|rfl|trivial⟩
  ·simp only[zah,zad,zas];omega
  ·simp only;rw[←h2,zao,show (a-0).toNat=a.toNat from by omega];simp
  ·simp only;rw[dV,←h3 j];by_cases hj:j=a
   ·rw[zab (by simp [hj])];simp [hj]
   ·rw[zaa (by simpa using hj)];simp [hj]
theorem Qm (l:O aa) (at':O Int) (hl:l.length<=1000) (hal:at'.length<=1000) (hp:at'.Pairwise (· < ·)) (hb:∀ a,a∈at'->0<=a/\a<(l.length:Int)):mv l at'=some (er 0 at' l):=by
 unfold mv;rw[AA 0 at' l hp (λa ha=>by have:=hb a ha;omega)];refine bm at' (λs:O aa×Int×O (Int×Bool)=>s.2.1) (λs t=>some (at'.map (λj=>nth l (j-0).toNat),tE at' 0 l))
  (λs t=>(s.1.length:Int)<=s.2.1/\s.1++t.map (λj=>nth l (j-0).toNat)=at'.map (λj=>nth l (j-0).toNat)/\(∀ j,((aC s.2.2 j).getD false=true∨j∈t)↔j∈at')/\(∀ a,a∈t->0<=a/\a<(l.length:Int))) (by omega) ?_ ?_ (s:=(([]:O aa),(0:Int),([]:O (Int×Bool)))) rfl ⟨by simp,rfl,λj=>by simp [r9],hb⟩
 ·rintro ⟨out,i,m⟩ ⟨h1,h2,h3,h4⟩ hi;simp only at h1 h2 h3 h4 hi ⊢;have hm:∀ j,(aC m j).getD false=decide (j∈at'):=λj=>by rw[zbl,zbs,←h3 j];simp
  rw[zbg,zbp] at h2;unfold l8 jy;rw[zaa (by simp only[zak];omega),←h2];have:loop (λs:O aa×Int=>jx l out m s.1 s.2) ([],0)=some (out,tE at' 0 l):=by
   refine (bm l (λs:O aa×Int=>s.2) (λs t=>some (out,s.1++tE at' s.2 t)) (λs t=>(s.1.length:Int)<=s.2) (by omega) ?_ ?_ rfl (by simp)).trans (by simp)
   ·rintro ⟨oth,k⟩ hq hk;simp only at hq hk ⊢;unfold jx;rw[zaa (by simp only[zak];omega)];exact ⟨_,rfl,by simp [tE]⟩
   ·rintro ⟨oth,k⟩ r t hq Mu cH hn hlen;simp only at hq Mu cH hn hlen ⊢;unfold jx;rw[zab (by simpa using cH),af ⟨Mu,cH⟩,af (by omega),hn,hm k];by_cases qY:k∈at'
    ·rw[zaa (by simpa using qY),af (by omega)];refine .inr ⟨_,rfl,by simp only;omega,rfl,?_⟩;simp [tE,qY]
    ·rw[zab (by simpa using qY),af (by simp only[zad,zas];omega),af (by omega)];refine .inr ⟨_,rfl,by simp only[zah,zad,zas];omega,rfl,?_⟩;simp [tE,qY]
  rw[this];exact ⟨_,rfl,rfl⟩
 ·rintro ⟨out,i,m⟩ a t ⟨h1,h2,h3,h4⟩ ia fz hn hlen;simp only at h1 h2 h3 h4 ia fz hn hlen ⊢;have ha:=h4 a (zaj ..);unfold l8;rw[zab (by simpa using fz),af ⟨ia,fz⟩,hn,af ha,af (by omega),af (by simp only[zad,zas];omega),af (by omega)];refine .inr ⟨_,rfl,⟨?_,?_,λj=>?_,λb hb=>h4 b (zai _ hb)⟩,rfl,by first|rfl|trivial⟩
  ·simp only[zah,zad,zas];omega
  ·simp only;rw[←h2,zao,show (a-0).toNat=a.toNat from by omega];simp
  ·simp only;rw[dV,←h3 j];by_cases hj:j=a
   ·rw[zab (by simp [hj])];simp [hj]
   ·rw[zaa (by simpa using hj)];simp [hj]
theorem JE (x:aa):∀ (i:Int) (l:O aa),0<=i->(nC x i l=-1/\∀ r,r∈l->bI r x=false)∨(∃ pre r t,l=pre++r::t/\(∀ y,y∈pre->bI y x=false)/\bI r x=true/\nC x i l=i+pre.length)
 | i,[],_=>.inl ⟨rfl,by simp⟩
 | i,r::l,h0=>by
  unfold nC;by_cases h:bI r x=true
  ·rw[zab h];exact .inr ⟨[],r,l,rfl,by simp,h,by simp⟩
  ·rw[zaa h];rcases JE x (i+1) l (by omega) with ⟨h1,h2⟩|⟨pre,y,t,h1,h2,h3,h4⟩
   ·exact .inl ⟨h1,λy hy=>by
     rcases zan.1 hy with e|hy
     ·rw[e];simpa using h
     ·exact h2 y hy⟩
   ·refine .inr ⟨r::pre,y,t,by rw[h1];rfl,λz hz=>?_,h3,by rw[h4];simp only[zad];omega⟩;rcases zan.1 hz with e|hz
    ·rw[e];simpa using h
    ·exact h2 z hz
theorem HM (x:aa):∀ (l:O aa),runN x l=(dy x l).length
 | []=>rfl
 | r::l=>by
  have ih:=HM x l;unfold runN;unfold dy at ih ⊢;by_cases h:bI r x=true
  ·rw[zab h,zej (p:=λr=>bI r x) h,zad,ih]
  ·rw[zaa h,List.takeWhile_cons_of_neg (p:=λr=>bI r x) h];rfl
theorem TY {x:aa} {l:O aa} (hs:Ob l):(nC x 0 l<0/\∀ r,r∈l->bI r x=false)∨(∃ pre run post,l=pre++(run++post)/\nC x 0 l=(pre.length:Int)/\runN x (l.drop (nC x 0 l).toNat)=run.length/\0<run.length/\(∀ r,r∈pre->bI r x=false)/\(∀ r,r∈run->bI r x=true)/\(∀ r,r∈post->bI r x=false)):=by
 rcases JE x 0 l (zey _) with ⟨h1,h2⟩|⟨pre,r,t,h1,h2,h3,h4⟩
 ·exact .inl ⟨by omega,h2⟩
 ·right;have e:∀ (l:O aa),dy r l=dy x l/\gf r l=gf x l:=λl=>by
   unfold dy gf;have:(λy=>bI y r)=λy=>bI y x:=funext λy=>zU h3
   rw[this];exact ⟨rfl,rfl⟩
  have tL:Ob (r::t):=by rw[h1] at hs;exact (zed.1 hs).2.1
  have hd:l.drop (nC x 0 l).toNat=r::t:=by rw[h4,h1,show (0+(pre.length:Int)).toNat=pre.length from by omega,zfg]
  refine ⟨pre,dy x (r::t),gf x (r::t),by rw[mG];exact h1,by omega,by rw[hd,HM],?_,h2,HE,λy hy=>?_⟩
  ·unfold dy;rw[zej (p:=λr=>bI r x) h3];simp
  ·rw[←zU h3];rw[←(e (r::t)).2] at hy;exact JD tL y hy
theorem sJ (x:aa):∀ (m m':Nat) (now:O aa),now.length<m->now.length<m'->fv m now x=fv m' now x
 | 0,_,_,h,_=>by omega
 | _,0,_,_,h=>by omega
 | m+1,m'+1,now,h,h'=>by
  unfold fv;cases hc:kq (kM true x 1 now).1 with
  | none=>rfl
  | some w =>
   have hl:=Aw (last:=true) (x:=x) (n:=1) (l:=now);have hp:0<(kM true x 1 now).1.length:=zdc.2 (sF hc);simp only[sJ x m m' (kM true x 1 now).2 (by omega) (by omega)]
theorem JF (x:aa):∀ (m:Nat) (now:O aa),(fv m now x).1.length+(fv m now x).2.length<=now.length
 | 0,now=>by simp [fv]
 | m+1,now=>by
  unfold fv;split
  ·simp
  ·rename_i w hc;have hl:=Aw (last:=true) (x:=x) (n:=1) (l:=now);have hp:0<(kM true x 1 now).1.length:=zdc.2 (sF hc);have ih:=JF x m (kM true x 1 now).2;simp only[zad];omega
structure Wt (l:O aa):Prop where
 FI:Ob l
 ok:∀ r,r∈l->da r=0
theorem Wt.sm {l:O aa} (h:Wt l):∀ r,r∈l->Sm r:=λr hr=>Ay (h.ok r hr)
theorem Wt.le {l:O aa} (h:Wt l):∀ r,r∈l->r.part<=99:=λr hr=>(nJ (h.ok r hr)).part.2
theorem Wt.sub {l l':O aa} (h:Wt l) (hs:l'.Sublist l):Wt l':=⟨h.FI.sublist hs,λr hr=>h.ok r (hs.subset hr)⟩
theorem RI.wt {l:O aa} (h:RI l):Wt l:=⟨h.FI,λr hr=>(h.ok r hr).1⟩
theorem Wt.ins {l:O aa} (h:Wt l) {p:aa} (hp:da p=0):Wt (mK l p):=⟨HB h.FI,λr hr=>by
 rcases xx.1 hr with e|hr
 ·rw[e];exact hp
 ·exact h.ok r hr⟩
theorem AB (x:aa):∀ (m:Nat) (now:O aa),(fv m now x).2.Sublist now
 | 0,now=>zfu _
 | m+1,now=>by
  unfold fv;split
  ·exact zfu _
  ·exact (AB x m _).trans (Di _ _ _ _)
theorem Wt.step {l:O aa} (h:Wt l) {p:aa} (hp:da p=0):Wt (iN l p).2:=by
 unfold iN;split
 ·exact h
 ·exact (h.ins hp).sub (AB _ _ _)
theorem AD (l:O aa) (p:aa):(iN l p).1.length+(iN l p).2.length<=l.length+1:=by
 unfold iN;split
 ·simp;omega
 ·have:=JF p (l.length+2) (mK l p);rw[Dh] at this;exact this
theorem TZ (x:aa) (now out:O aa) (h:Wt now) (hl:now.length+out.length<=1000):jz (yH x) now out=some ((fv (now.length+1) now x).2,out++(fv (now.length+1) now x).1):=by
 unfold jz;refine jM (λs:O aa×O aa=>some ((fv (s.1.length+1) s.1 x).2,s.2++(fv (s.1.length+1) s.1 x).1)) (λs=>Wt s.1/\s.1.length+s.2.length<=1000) (λs=>s.1.length) ?_ ⟨h,hl⟩ (by simp only;omega);rintro ⟨l,o⟩ ⟨hw,hb⟩;simp only at hw hb ⊢;unfold gR;rw[Wd l x (by omega)];rcases TY (x:=x) hw.FI with ⟨h1,h2⟩|⟨pre,run,post,e,h1,h2,h3,h4,h5,h6⟩
 ·rw[zab h1];simp only[zac];rw[af (by omega),af (by omega)];simp only[Int.toNat_zero,List.take_zero,List.drop_zero];rw[Ql [] x true (by simp) .nil (by simp) (by simp)];simp only[zac,gF];rw[Qm [] [] (by simp) (by simp) .nil (by simp)];simp only[zac,sG];rw[HJ [] (by simp) (by simp),Cg];simp only[zac,vT,Wb,zcm,zby];refine .inl ⟨_,rfl,?_⟩;have:fv (l.length+1) l x=([],l):=by
   unfold fv;rw[Dj true (λr hr hc=>by rw[h2 r hr] at hc;simp at hc)];rfl
  rw[this,zbp]
 ·have hlen:l.length=pre.length+(run.length+post.length):=by rw[e];simp
  rw[h2,h1,zaa (by omega)];simp only[zac];have hrs:run.Sublist l:=by
   rw[e];exact (List.sublist_append_left run post).trans (List.sublist_append_right pre _)
  have Q5:(l.take ((pre.length:Int)+(run.length:Int)).toNat).drop ((pre.length:Int)).toNat=run:=by
   rw[e,show ((pre.length:Int)+(run.length:Int)).toNat=pre.length+run.length from by omega,show ((pre.length:Int)).toNat=pre.length from by omega,←zar,←zah,zfn,zfg]
  have hwr:=hw.sub hrs;rw[af (by omega),af (by omega),Q5,Ql run x true (by omega) hwr.FI h5 hwr.le];have PG:=vL true x 1 0 run;simp only[zac];rw[Qm run _ (by omega) (by omega) (zW _ _ _ _ _) (λa ha=>by have:=yu true x 1 0 run a ha;omega),yw];have s7:=Aw (last:=true) (x:=x) (n:=1) (l:=run);simp only[zac];rw[HJ _ (O8 hwr.sm).1 (by omega)];simp only[zac];have Lw:kM true x 1 l=((kM true x 1 run).1,pre++((kM true x 1 run).2++post)):=by
   rw[e,Qg true (λr hr hc=>by rw[h4 r hr] at hc;simp at hc),HC true h6]
  cases hc:kq (kM true x 1 run).1 with
  | none =>
   simp only[vT,Wb,zcm,zby];refine .inl ⟨_,rfl,?_⟩;have:fv (l.length+1) l x=([],l):=by
    unfold fv;rw[Lw,hc]
   rw[this,zbp]
  | some w =>
   have hp:0<(kM true x 1 run).1.length:=zdc.2 (sF hc);simp only[vT,zci,zaz,zbw];unfold tO;rw[af ⟨by omega,by omega,by omega,by omega,by omega⟩];simp only[zac];rw[af (by simp only[zad,zas];omega)];have od:l.take ((pre.length:Int)).toNat++(kM true x 1 run).2++l.drop ((pre.length:Int)+(run.length:Int)).toNat=(kM true x 1 l).2:=by
    rw[Lw]
    conv=>lhs;rw[e]
    rw[show ((pre.length:Int)+(run.length:Int)).toNat=pre.length+run.length from by omega,show ((pre.length:Int)).toNat=pre.length from by omega,zfn,←zar pre run post,←zah,zfg,zar]
   rw[od];have CF:=Aw (last:=true) (x:=x) (n:=1) (l:=l);rw[Lw] at CF;simp only at CF;have hl3:(kM true x 1 l).2.length<l.length:=by rw[Lw];simp only;omega
   refine .inr ⟨_,rfl,⟨hw.sub (Di _ _ _ _),by simp only[zah,zad,zas];omega⟩,by simp only;omega,?_⟩;simp only;have:fv (l.length+1) l x=(w::(fv l.length (kM true x 1 l).2 x).1,(fv l.length (kM true x 1 l).2 x).2):=by
    conv=>lhs;unfold fv
    rw[show (kM true x 1 l).1=(kM true x 1 run).1 from by rw[Lw],hc]
   rw[this,sJ x ((kM true x 1 l).2.length+1) l.length _ (by omega) (by omega)];simp
theorem T0 (now l:O aa) (h:Wt now) (hv:∀ r,r∈l->da r=0) (hl:now.length+l.length<=1000):jQ now l=some (eP now l):=by
 unfold jQ dv;rw[af (by omega)];simp only[zac];refine (bm l (λs:O aa×O aa×Int=>s.2.2) (λs t=>some (s.2.1++(eP s.1 t).1,(eP s.1 t).2)) (λs t=>Wt s.1/\(∀ r,r∈t->da r=0)/\s.1.length+s.2.1.length+t.length<=1000) (by omega) ?_ ?_ (s:=(now,([]:O aa),(0:Int))) rfl ⟨h,hv,by simp only[zas];omega⟩).trans (by simp)
 ·rintro ⟨w,o,i⟩ ⟨h1,h2,h3⟩ hi;simp only at h1 h2 h3 hi ⊢;unfold l9;rw[zaa (by simp only[zak];omega)];exact ⟨_,rfl,by simp [eP]⟩
 ·rintro ⟨w,o,i⟩ r t ⟨h1,h2,h3⟩ ia fz hn hlen;simp only at h1 h2 h3 ia fz hn hlen ⊢;simp only[zad] at h3;have hr:=h2 r (zaj ..);have ht:∀ r,r∈t->da r=0:=λy hy=>h2 y (zai _ hy)
  unfold l9;rw[zab (by simpa using fz),af ⟨ia,fz⟩,hn];by_cases hp:r.part=0
  ·rw[zab (by simpa using hp),af (by simp only[zad,zas];omega),af (by omega)];refine .inr ⟨_,rfl,⟨h1,ht,by simp only[zah,zad,zas];omega⟩,rfl,?_⟩;simp only[eP,iN,hp,zby];simp
  ·rw[zaa (by simpa using hp)];have es:iN w r=fv (w.length+2) (mK w r) r:=by unfold iN;rw[zaa hp]
   have hins:=h1.ins hr;have qU:=Dh w r;have key:loop (λs=>jA l w o i s) 0=some (.inl ((iN w r).2,o++(iN w r).1,i+1)):=by
    refine bm w (λs:Int=>s) (λs t=>(some (Sum.inl ((iN w r).2,o++(iN w r).1,i+1)):J ((O aa×O aa×Int) ⊕ (O aa×O aa)))) (λs t=>t=w.drop s.toNat/\mK w r=w.take s.toNat++mK t r) (by omega) ?_ ?_ rfl ⟨rfl,by simp⟩
    ·intro k ⟨_,hk⟩ hke;unfold jA hG;rw[af (λh=>by simp at h;omega),af (λh=>by simp at h;omega)];have e0:decide (k<(w.length:Int))=false:=by simp;omega
     simp only[e0,cG,zaz,zbw,zac,zdg,hn];unfold re;rw[af ⟨by omega,by omega,by simp,by simp only[zad,zas];omega⟩];have e1:w.take k.toNat++[r]++w.drop k.toNat=mK w r:=by
      rw[hk,zdf (by omega)];simp [mK]
     simp only[zac,cg,e1];rw[show (⟨r.source,r.call⟩:aK)=yH r from rfl,TZ r (mK w r) o hins (by omega),sJ r ((mK w r).length+1) (w.length+2) _ (by omega) (by omega),←es];simp only[zac];rw[af (by omega)];exact ⟨_,rfl,rfl⟩
    ·intro k y u ⟨hdu,hk⟩ Mu cH hny hkl;have hu:w.drop (k.toNat+1)=u:=by
      rw[oh (l:=w) (k:=k.toNat) (by omega)] at hdu;injection hdu with _ h;exact h.symm
     unfold jA hG;rw[af (λ_=>⟨Mu,cH⟩),af (λ_=>by omega)];obtain ⟨c,hc,rR⟩:=TV y r;have e0:decide (k<(w.length:Int))=true:=by simp;omega
     simp only[e0,cG,zby,hny,hn,hc,zac,zcu];by_cases cT:Lt r y
     ·rw[zaa (by simp;exact Int.lt_of_not_ge (λh=>(rR.1 h) cT))];unfold re;rw[af ⟨by omega,by omega,by simp,by simp only[zad,zas];omega⟩];have e1:w.take k.toNat++[r]++w.drop k.toNat=mK w r:=by
       rw[hk,oh (l:=w) (k:=k.toNat) (by omega),hny];rw[hu];unfold mK;rw[zab cT];simp
      simp only[zac,cg,e1];rw[show (⟨r.source,r.call⟩:aK)=yH r from rfl,TZ r (mK w r) o hins (by omega),sJ r ((mK w r).length+1) (w.length+2) _ (by omega) (by omega),←es];simp only[zac];rw[af (by omega)];exact .inl ⟨_,rfl,rfl⟩
     ·rw[zab (by simp;exact rR.2 cT),af (by omega)];refine .inr ⟨_,rfl,⟨by rw[show (k+1).toNat=k.toNat+1 from by omega,hu],?_⟩,rfl,by first|rfl|trivial⟩;rw[hk,show (k+1).toNat=k.toNat+1 from by omega,ta (by omega),hny]
      conv=>lhs;unfold mK
      rw[zaa cT];simp
   rw[key];have Q5:=AD w r;refine .inr ⟨_,rfl,⟨h1.step hr,ht,by simp only[zah];omega⟩,rfl,?_⟩;simp only[eP];simp
theorem RO (l:O aa) (p:aa) (hl:l.length<=1000):rK l p=some (mK l p):=by
 unfold rK;refine (bm l (λs:O aa×Bool×Int=>s.2.2) (λs t=>some (s.1++if s.2.1=true then t else mK t p)) (λs t=>(s.1.length:Int)=s.2.2+if s.2.1=true then 1 else 0) (by omega) ?_ ?_ (s:=(([]:O aa),false,(0:Int))) rfl (by simp)).trans (by simp)
 ·rintro ⟨o,d,i⟩ h hi;simp only at h hi ⊢;have hb:(o.length:Int)<=i+1:=by rw[h];split <;> omega
  unfold qA nz;rw[zaa (by simp only[zak];omega)];cases d
  ·simp only[zcm,zby,zaz,zbw];rw[af (by simp only[zad,zas];omega)];exact ⟨_,rfl,by simp [mK]⟩
  ·exact ⟨_,rfl,by simp⟩
 ·rintro ⟨o,d,i⟩ r t h ia fz hn hlen;simp only at h ia fz hn hlen ⊢;have hb:(o.length:Int)<=i+1:=by rw[h];split <;> omega
  unfold qA kQ;rw[zab (by simpa using fz),af (λ_=>⟨ia,fz⟩),hn];cases d
  ·simp only[zcm,cG,zby,RN,zac,zcu,zaz,zbw];by_cases cT:Lt p r
   ·rw[zab (by simpa using cT),af (by simp only[zad,zas];omega),af ⟨ia,fz⟩,af (by simp only[zah,zad,zas];omega),af (by omega)];refine .inr ⟨_,rfl,?_,rfl,?_⟩
    ·simp only[zaz,zbw] at h;simp only[zah,zad,zas,zby];omega
    ·simp [mK,cT]
   ·rw[zaa (by simpa using cT),af ⟨ia,fz⟩,af (by simp only[zad,zas];omega),af (by omega)];refine .inr ⟨_,rfl,?_,rfl,?_⟩
    ·simp only[zah,zad,zas];omega
    ·simp [mK,cT]
  ·simp only[zci,cG,zaz,zbw,zac,zdg,zby];rw[af ⟨ia,fz⟩,af (by simp only[zad,zas];omega),af (by omega)];refine .inr ⟨_,rfl,?_,rfl,?_⟩
   ·simp only[zah,zad,zas,zby] at h ⊢;omega
   ·simp
theorem We (v:O aa) (i:Int) (r:aa) (hn:nth v i.toNat=r) (ia:0<=i) (fz:i<(v.length:Int)) (now out:O aa) (hs:∀ r,r∈now->Sm r) (hl:now.length+out.length<=1000) (hv:v.length<=1000) :
  loop (λs:O aa×O aa=>sU v i s.1 s.2) (out,now)=some (.inl (out++(fv (now.length+1) now r).1,(fv (now.length+1) now r).2,i+1)):=by
 refine jM (λs:O aa×O aa=>(some (Sum.inl (s.1++(fv (s.2.length+1) s.2 r).1,(fv (s.2.length+1) s.2 r).2,i+1)):J ((O aa×O aa×Int) ⊕ (O aa×O aa)))) (λs=>(∀ r,r∈s.2->Sm r)/\s.2.length+s.1.length<=1000) (λs=>s.2.length) ?_ ⟨hs,hl⟩ (by simp only;omega);rintro ⟨o,l⟩ ⟨hw,hb⟩;simp only at hw hb ⊢;unfold sU;rw[af ⟨ia,fz⟩,hn,M4 l r true (by omega)];have PG:=vL true r 1 0 l;simp only[zac];rw[K6 l _ (by omega) (by omega),yw];have s7:=Aw (last:=true) (x:=r) (n:=1) (l:=l);simp only[zac];rw[M3 _ (O8 hw).1 (by omega)];simp only[zac];cases hc:kq (kM true r 1 l).1 with
 | none =>
  simp only[vT,Wb,zcm,zby];rw[af (by omega)];refine .inl ⟨_,rfl,?_⟩;have:fv (l.length+1) l r=([],l):=by unfold fv;rw[hc]
  rw[this,zbp]
 | some w =>
  have hp:0<(kM true r 1 l).1.length:=zdc.2 (sF hc);simp only[vT,zci,zaz,zbw];rw[af (by simp only[zad,zas];omega)];refine .inr ⟨_,rfl,⟨(O8 hw).2,by simp only[zah,zad,zas];omega⟩,by simp only;omega,?_⟩;have:fv (l.length+1) l r=(w::(fv l.length (kM true r 1 l).2 r).1,(fv l.length (kM true r 1 l).2 r).2):=by
   conv=>lhs;unfold fv
   rw[hc]
  simp only;rw[this,sJ r ((kM true r 1 l).2.length+1) l.length _ (by omega) (by omega)];simp
theorem T1 {now:O aa} {r:aa} (hs:∀ r,r∈now->Sm r) (hr:Sm r):∀ y,y∈(iN now r).2->Sm y:=by
 unfold iN;split
 ·exact hs
 ·intro y hy;rcases xx.1 ((AB _ _ _).subset hy) with e|hy
  ·rw[e];exact hr
  ·exact hs y hy
theorem Wf (now l:O aa) (h:∀ r,r∈now->Sm r) (hv:∀ r,r∈l->Sm r) (hl:now.length+l.length<=1000):vr now l=some (eP now l):=by
 unfold vr;rw[af (by omega)];refine (bm l (λs:O aa×O aa×Int=>s.2.2) (λs t=>some (s.1++(eP s.2.1 t).1,(eP s.2.1 t).2)) (λs t=>(∀ r,r∈s.2.1->Sm r)/\(∀ r,r∈t->Sm r)/\s.2.1.length+s.1.length+t.length<=1000) (by omega) ?_ ?_ (s:=(([]:O aa),now,(0:Int))) rfl ⟨h,hv,by simp only[zas];omega⟩).trans (by simp)
 ·rintro ⟨o,w,i⟩ ⟨h1,h2,h3⟩ hi;simp only at h1 h2 h3 hi ⊢;unfold sV;rw[zaa (by simp only[zak];omega)];exact ⟨_,rfl,by simp [eP]⟩
 ·rintro ⟨o,w,i⟩ r t ⟨h1,h2,h3⟩ ia fz hn hlen;simp only at h1 h2 h3 ia fz hn hlen ⊢;simp only[zad] at h3;have hr:=h2 r (zaj ..);have ht:∀ r,r∈t->Sm r:=λy hy=>h2 y (zai _ hy)
  unfold sV;rw[zab (by simpa using fz),af ⟨ia,fz⟩,hn];by_cases hp:r.part=0
  ·rw[zab (by simpa using hp),af ⟨ia,fz⟩,af (by simp only[zad,zas];omega),af (by omega)];refine .inr ⟨_,rfl,⟨h1,ht,by simp only[zah,zad,zas];omega⟩,rfl,?_⟩;simp only[eP,iN,hp,zby];simp
  ·have es:iN w r=fv (w.length+2) (mK w r) r:=by unfold iN;rw[zaa hp]
   have qU:=Dh w r;rw[zaa (by simpa using hp),af ⟨ia,fz⟩,RO w r (by omega)];simp only[zac];rw[We l i r hn ia fz (mK w r) o (λy hy=>by
    rcases xx.1 hy with e|hy
    ·rw[e];exact hr
    ·exact h1 y hy) (by omega) (by omega),sJ r ((mK w r).length+1) (w.length+2) _ (by omega) (by omega),←es]
   have Q5:=AD w r;refine .inr ⟨_,rfl,⟨T1 h1 hr,ht,by simp only[zah];omega⟩,rfl,?_⟩;simp only[eP];simp
theorem AE (b:Int):∀ (m m':Nat) (l:O aa),l.length<=m->l.length<=m'->jb b m l=jb b m' l
 | 0,0,_,_,_=>rfl
 | 0,m'+1,[],_,_=>rfl
 | m+1,0,[],_,_=>rfl
 | m+1,m'+1,[],_,_=>rfl
 | m+1,m'+1,x::l,h,h'=>by
  have hl:=Dm x l;simp only[zad] at h h';unfold jb;rw[AE b m m' (gf x (x::l)) (by omega) (by omega)]
theorem AF (x:aa) (l:O aa):Dl (x::l)=(im (er 0 (sI (x::l) (gF false x 1 0 (x::l)) (gF false x 1 0 (x::l)).length) (x::l)).1).toList++(er 0 (sI (x::l) (gF false x 1 0 (x::l)) (gF false x 1 0 (x::l)).length) (x::l)).2.map tZ:=rfl
theorem EC (l:O aa) (at':O Int) (m:Nat):sI l at' (m+1)=if (im (er 0 (at'.take (m+1)) l).1).isSome=true then at'.take (m+1) else sI l at' m:=rfl
theorem HN:∀ (l:O aa),(Dl l).length<=l.length
 | []=>zaq _
 | x::l=>by
  rw[AF];generalize sI (x::l) (gF false x 1 0 (x::l)) (gF false x 1 0 (x::l)).length=at';have hp:=(sH 0 at' (x::l)).length_eq;simp only[zah,zcz,zad] at hp ⊢;cases hw:im (er 0 at' (x::l)).1 with
  | none=>simp only[zei,zas];omega
  | some w =>
   have:0<(er 0 at' (x::l)).1.length:=by
    cases hq:(er 0 at' (x::l)).1 with
    | nil=>rw[hq] at hw;cases hw
    | cons=>simp
   simp only[zea,zad,zas];omega
theorem zY (x:aa) (l:O aa):dy x (x::l)=x::dy x l:=zej (p:=λr=>bI r x) (yx x)
theorem F8 (x:aa) (l:O aa):(dy x l).Sublist l:=List.takeWhile_sublist _
theorem T2 (x:aa) (l:O aa):(gf x l).Sublist l:=zex _
theorem M6 (x:aa) (l:O aa):l.take (dy x l).length=dy x l:=by
 conv=>lhs;rw[←mG x l]
 rw[mG,←mG x l,mG]
 conv=>lhs;arg 2;rw[←mG x l]
 exact zfn
theorem HO (x:aa) (l:O aa):l.drop (dy x l).length=gf x l:=by
 conv=>lhs;arg 2;rw[←mG x l]
 exact zfg
theorem Dr {i:Int} {at':O Int} {l:O aa} (h:∀ r,r∈l->Sm r):(∀ r,r∈(er i at' l).1->Sm r)/\(∀ r,r∈(er i at' l).2->Sm r):=by
 have hp:=sH i at' l;exact ⟨λr hr=>h r (hp.mem_iff.1 (zbc.2 (.inl hr))),λr hr=>h r (hp.mem_iff.1 (zbc.2 (.inr hr)))⟩
theorem AG (i:Int) (at':O Int) (l:O aa):(er i at' l).1.length<=l.length/\(er i at' l).2.length<=l.length:=by
 have hp:=(sH i at' l).length_eq;rw[zah] at hp;omega
theorem M7 (o:J aa):(vT o).2=o.isSome:=by cases o <;> rfl
theorem Qn (l:O aa) (at':O Int) (hs:∀ r,r∈l->Sm r) (hl:l.length<=1000) (ha:at'.length<=1000):nf l at'=some ((im (er 0 at' l).1).toList++(er 0 at' l).2.map tZ):=by
 unfold nf;rw[K6 l at' hl ha];have PG:=AG 0 at' l;simp only[zac];rw[HH _ (Dr hs).1 (by omega)];simp only[zac];generalize V0:er 0 at' l=pk at PG ⊢;have key:∀ (o:O aa) (c0 c1 c2:Int) (c3 c4:O uA) (c5 c6 c7 c8:Int) (c9:Bool) (ZT:Int) (ZU:Bool),o.length<=1->na pk o c0 c1 c2 c3 c4 c5 c6 c7 c8 c9 ZT ZU=some (o++pk.2.map tZ):=by
  intro o c0 c1 c2 c3 c4 c5 c6 c7 c8 c9 ZT ZU ho;unfold na;refine bm pk.2 (λs:O aa×Int=>s.2) (λs t=>some (s.1++t.map tZ)) (λs t=>(s.1.length:Int)<=s.2+1) (by omega) ?_ ?_ (s:=(o,(0:Int))) rfl (by simp only;omega)
  ·rintro ⟨q,i⟩ h hi;simp only at h hi ⊢;unfold uI;rw[zaa (by simp only[zak];omega)];exact ⟨_,rfl,by simp⟩
  ·rintro ⟨q,i⟩ r t h ia fz hn hlen;simp only at h ia fz hn hlen ⊢;unfold uI;rw[zab (by simpa using fz),af ⟨ia,fz⟩,hn];simp only[wh,zac];rw[af (by simp only[zad,zas];omega),af (by omega)];refine .inr ⟨_,rfl,by simp only[zah,zad,zas];omega,rfl,?_⟩;simp only[zao,zar];rfl
 cases hw:im pk.1 with
 | none =>
  rw[zaa (by simp [vT,Wb]),key _ _ _ _ _ _ _ _ _ _ _ _ _ (by simp)];rfl
 | some w =>
  rw[zab (show (vT (some w)).2=true from rfl),af (by simp),key _ _ _ _ _ _ _ _ _ _ _ _ _ (by simp)];rfl
theorem ZY (x:aa) (l:O aa) (hs:∀ r,r∈x::l->Sm r) (hl:(x::l).length<=1000):uW (x::l)=some (Dl (x::l)):=by
 unfold uW;rw[af (by simp only[zad];omega),show nth (x::l) (Int.toNat 0)=x from rfl,M4 _ x false hl];have PG:=vL false x 1 0 (x::l);simp only[zac];generalize hP:gF false x 1 0 (x::l)=P at PG;have he:Dl (x::l)=(im (er 0 (sI (x::l) P P.length) (x::l)).1).toList++(er 0 (sI (x::l) P P.length) (x::l)).2.map tZ:=by
  rw[AF,hP]
 rw[he];generalize x::l=run at *;refine (jM (λs:O Int=>some ((im (er 0 (sI run P s.length) run).1).toList++(er 0 (sI run P s.length) run).2.map tZ)) (λs=>s=P.take s.length/\s.length<=P.length) (λs=>s.length) ?_ ⟨by simp,zaq _⟩ (by omega));rintro s ⟨h1,h2⟩;unfold yh;by_cases h0:s.length=0
 ·have:s=[]:=List.length_eq_zero_iff.1 h0;subst this;rw[zaa (by simp),Qn run [] hs hl (by simp)];exact .inl ⟨_,rfl,rfl⟩
 ·rw[zab (by simp;omega),K6 run s hl (by omega)];have V0:=AG 0 s run;simp only[zac];rw[HH _ (Dr hs).1 (by omega)];simp only[zac,M7];obtain ⟨m,hm⟩:∃ m,s.length=m+1:=⟨s.length-1,by omega⟩;have hsh:sI run P s.length=if (im (er 0 s run).1).isSome=true then s else sI run P m:=by
   rw[hm,EC,←hm,←h1]
  rw[hsh];by_cases hw:(im (er 0 s run).1).isSome=true
  ·rw[zab hw,zab hw,Qn run s hs hl (by omega)];exact .inl ⟨_,rfl,rfl⟩
  ·rw[zaa hw,zaa hw,af (by omega),af (by omega)];have e:(s.take ((s.length:Int) - 1).toNat)=P.take m:=by
    rw[show ((s.length:Int) - 1).toNat=m from by omega]
    conv=>lhs;rw[h1]
    rw[zfp,hm];congr 1;omega
   have el:(P.take m).length=m:=by rw[zbb];omega
   rw[e];exact .inr ⟨_,rfl,⟨by rw[el],by rw[el];omega⟩,by rw[el];omega,by simp only[el]⟩
theorem RP (l:O aa) (b:Int) (hs:∀ r,r∈l->Sm r) (hl:l.length<=1000):rG l b=some (jb b l.length l):=by
 unfold rG;refine (jM (λs:O aa×O aa×Int=>some (s.1++(jb b l.length (l.drop s.2.2.toNat)).1,s.2.1++(jb b l.length (l.drop s.2.2.toNat)).2)) (λs=>0<=s.2.2/\s.2.2<=(l.length:Int)/\(s.1.length:Int)+s.2.1.length<=s.2.2) (λs=>((l.length:Int) - s.2.2).toNat) ?_ (s:=(([]:O aa),([]:O aa),(0:Int))) ⟨by decide,by simp only;omega,by simp⟩ (by simp only;omega)).trans (by simp);rintro ⟨out,left,i⟩ ⟨h0,h1,h2⟩;simp only at h0 h1 h2 ⊢;unfold tR;by_cases hi:i<(l.length:Int)
 ·rw[zab (by simpa using hi)];have hd:=oh (l:=l) (k:=i.toNat) (by omega);have zo:(l.drop i.toNat).length=l.length-i.toNat:=zbh;generalize hx:nth l i.toNat=x at hd;generalize ht:l.drop (i.toNat+1)=t at hd;have hsd:∀ r,r∈x::t->Sm r:=λr hr=>hs r (by rw[←hd] at hr;exact zdd hr);have hrn:(dy x (x::t)).length=(dy x t).length+1:=by rw[zY];rfl
  have SN:(dy x (x::t)).length<=(x::t).length:=(F8 x _).length_le;rw[hd] at zo;have hk:(i:Int)+((dy x (x::t)).length:Int)<=(l.length:Int):=by omega
  have ZZ:(l.take (i+((dy x (x::t)).length:Int)).toNat).drop i.toNat=dy x (x::t):=by
   rw[List.drop_take,hd,show (i+((dy x (x::t)).length:Int)).toNat-i.toNat=(dy x (x::t)).length from by omega,M6]
  have Bv:l.drop (i+((dy x (x::t)).length:Int)).toNat=gf x (x::t):=by
   rw[show (i+((dy x (x::t)).length:Int)).toNat=i.toNat+(dy x (x::t)).length from by omega,←List.drop_drop,hd,HO]
  have hel:=HN (dy x (x::t));have hexp:jb b l.length (x::t)=jb b ((gf x (x::t)).length+1+t.length) (x::t):=AE b _ _ _ (by omega) (by simp only[zad];omega);obtain ⟨m,hm⟩:∃ m,l.length=m+1:=⟨l.length-1,by omega⟩;have Yt:=Dm x t;have T3:jb b l.length (x::t)=if (dy x (x::t)).any (λr=>decide (b<=r.start))=true then ((jb b l.length (gf x (x::t))).1,dy x (x::t)++(jb b l.length (gf x (x::t))).2) else (Dl (dy x (x::t))++(jb b l.length (gf x (x::t))).1,(jb b l.length (gf x (x::t))).2):=by
   conv=>lhs;rw[hm];unfold jb
   simp only[zad] at zo;rw[AE b m l.length (gf x (x::t)) (by omega) (by omega)]
  have hj:jq l out left i (i+((dy x (x::t)).length:Int)) ((dy x (x::t)).any (λr=>decide (b<=r.start)))=some (.inl (if (dy x (x::t)).any (λr=>decide (b<=r.start))=true then (out,left++dy x (x::t),i+((dy x (x::t)).length:Int)) else (out++Dl (dy x (x::t)),left,i+((dy x (x::t)).length:Int)))):=by
   unfold jq;rw[ZZ];split
   ·rw[af (by omega),af (by omega)]
   ·rw[af (by omega)];have:uW (dy x (x::t))=some (Dl (dy x (x::t))):=by
     rw[zY];have hss:=F8 x (x::t);rw[zY] at hss SN;simp only[zad] at SN zo;exact ZY x _ (λr hr=>hsd r (hss.subset hr)) (by simp only[zad];omega)
    rw[this];simp only[zac];rw[af (by omega)]
  have hloop:loop (λs:Int×Bool=>kP l b out left i s.1 s.2) (i,false)=some (.inl (if (dy x (x::t)).any (λr=>decide (b<=r.start))=true then (out,left++dy x (x::t),i+((dy x (x::t)).length:Int)) else (out++Dl (dy x (x::t)),left,i+((dy x (x::t)).length:Int)))):=by
   rw[←hj];have mJ:=Dp l (step:=λs:Int×Bool=>kP l b out left i s.1 s.2) (λs:Int×Bool=>s.1) (λs _=>jq l out left i (i+((dy x (x::t)).length:Int)) ((dy x (x::t)).any (λr=>decide (b<=r.start))))
    (λs u=>s.1+((dy x u).length:Int)=i+((dy x (x::t)).length:Int)/\(s.2 || (dy x u).any (λr=>decide (b<=r.start)))=(dy x (x::t)).any (λr=>decide (b<=r.start))) (by omega) ?_ ?_ (s:=(i,false)) ⟨h0,by simp only;omega⟩ (by simp only[hd,zdm,and_self])
   ·exact mJ
   ·rintro ⟨k,late⟩ ⟨e1,e2⟩ he;simp only at e1 e2 he ⊢;unfold kP;have cT:decide (k<(l.length:Int))=false:=by simp;omega
    rw[af (by simp [cT]),af (by simp [cT])];simp only[cT,cG,zaz,zbw,zac,zdg];simp only[dy,List.takeWhile_nil,zas,zeh,zdh] at e1 e2;simp only[dy] at hj ⊢;rw[show k=i+((List.takeWhile (λr=>bI r x) (x::t)).length:Int) from by omega,e2,hj];exact ⟨_,rfl,rfl⟩
   ·rintro ⟨k,late⟩ r u ⟨e1,e2⟩ Mu cH hn hlen;simp only at e1 e2 Mu cH hn hlen ⊢;unfold kP;have cT:decide (k<(l.length:Int))=true:=by simpa using cH
    rw[af (λ_=>⟨Mu,cH⟩),af (λ_=>⟨h0,hi⟩)];simp only[cT,cG,zby,hn,hx,oQ,zac,zcu];have ec:((r.source==x.source) && (r.call==x.call))=bI r x:=by rw[zbl,pC];simp
    rw[ec];by_cases hc:bI r x=true
    ·rw[zab hc,af (λ_=>⟨Mu,cH⟩),af (by omega)];have eru:dy x (r::u)=r::dy x u:=zej (p:=λr=>bI r x) hc;rw[eru] at e1 e2;simp only[zad,zcs] at e1 e2;refine .inr ⟨_,rfl,⟨by simp only;omega,?_⟩,rfl,by first|rfl|trivial⟩;simp only;rw[←e2];simp only[ge_iff_le,Bool.or_assoc]
    ·rw[zaa hc];have eru:dy x (r::u)=[]:=List.takeWhile_cons_of_neg (p:=λr=>bI r x) hc;rw[eru] at e1 e2;simp only[zas,zeh,zdh] at e1 e2;rw[show k=i+((dy x (x::t)).length:Int) from by omega,e2,hj];exact .inl ⟨_,rfl,rfl⟩
  rw[hloop,hd,T3];right;split
  ·refine ⟨_,rfl,⟨by simp only;omega,hk,by simp only[zah];omega⟩,by simp only;omega,?_⟩;simp only[Bv];simp
  ·refine ⟨_,rfl,⟨by simp only;omega,hk,by simp only[zah];omega⟩,by simp only;omega,?_⟩;simp only[Bv];simp
 ·rw[zaa (by simpa using hi),zdf (by omega)];refine .inl ⟨_,rfl,?_⟩;have:jb b l.length []=([],[]):=by cases l.length <;> rfl
  rw[this];simp
def M8 (b:Int):Int->List aa->Int
 | _,[]=>-1
 | i,r::t=>if b<=r.start then i else M8 b (i+1) t
theorem M9 (b:Int):∀ (i:Int) (t:O aa),0<=i->decide (M8 b i t>=0)=t.any (λr=>decide (b<=r.start))
 | i,[],_=>by simp [M8]
 | i,r::t,h=>by
  unfold M8;by_cases hb:b<=r.start
  ·simp [hb,h]
  ·rw[zaa hb,M9 b (i+1) t (by omega)];simp [hb]
theorem Z0 (l:O aa) (b:Int) (hl:l.length<=1000):nw l b=some (l.any (λr=>decide (b<=r.start))):=by
 unfold nw;have:nv l b=some (M8 b 0 l):=by
  unfold nv;refine bm l (λs:Int=>s) (λs t=>some (M8 b s t)) (λs t=>True) (by omega) ?_ ?_ rfl trivial
  ·intro i _ hi;unfold mY;rw[zaa (by simp only[zak];omega)];exact ⟨_,rfl,rfl⟩
  ·intro i r t _ ia fz hn hlen;unfold mY;rw[zab (by simpa using fz),af ⟨ia,fz⟩,hn];simp only[lq,zac,ge_iff_le];by_cases h:b<=r.start
   ·rw[zab (by simpa using h)];exact .inl ⟨_,rfl,by simp [M8,h]⟩
   ·rw[zaa (by simpa using h),af (by omega)];exact .inr ⟨_,rfl,trivial,rfl,by simp [M8,h]⟩
 rw[this];simp only[zac];rw[M9 b 0 l (zey _)]
theorem Na {l:O aa} {P:O Int} (hp:P.Pairwise (· < ·)):∀ (m:Nat),(sI l P m).Pairwise (· < ·)/\(∀ a,a∈sI l P m->a∈P)/\(sI l P m).length<=P.length
 | 0=>⟨.nil,by simp [sI],by simp [sI]⟩
 | m+1=>by
  rw[EC];split
  ·exact ⟨hp.sublist (List.take_sublist _ _),λa ha=>zdy ha,by rw[zbb];omega⟩
  ·exact Na hp m
theorem Wg (x:aa) (run:O aa) (hw:Wt run) (hc:∀ r,r∈run->bI r x=true) (hl:run.length<=1000):ln run=some (sI run (gF false x 1 0 run) (gF false x 1 0 run).length):=by
 unfold ln;rw[ZX run x false hl hw.FI hc hw.le];have PG:=vL false x 1 0 run;have U6:=yu false x 1 0 run;have hpa:=zW false x 1 0 run;simp only[zac];generalize gF false x 1 0 run=P at PG U6 hpa ⊢;refine (jM (λs:O Int=>some (sI run P s.length)) (λs=>s=P.take s.length/\s.length<=P.length) (λs=>s.length) ?_ ⟨by simp,zaq _⟩ (by omega));rintro s ⟨h1,h2⟩;unfold oO;by_cases h0:s.length=0
 ·have:s=[]:=List.length_eq_zero_iff.1 h0;subst this;rw[zaa (by simp)];exact .inl ⟨_,rfl,rfl⟩
 ·have Xz:s.Pairwise (· < ·):=by rw[h1];exact hpa.sublist (List.take_sublist _ _)
  have hsb:∀ a,a∈s->0<=a/\a<(run.length:Int):=λa ha=>by
   rw[h1] at ha;have:=U6 a (zdy ha);omega
  rw[zab (by simp;omega),TX run s hl (by omega) Xz hsb];have V0:=AG 0 s run;simp only[zac];rw[K5 _ (Dr hw.sm).1 (by omega)];simp only[zac,M7];obtain ⟨m,hm⟩:∃ m,s.length=m+1:=⟨s.length-1,by omega⟩;have hsh:sI run P s.length=if (im (er 0 s run).1).isSome=true then s else sI run P m:=by
   rw[hm,EC,←hm,←h1]
  rw[hsh];by_cases Z1:(im (er 0 s run).1).isSome=true
  ·rw[zab Z1,zab Z1];exact .inl ⟨_,rfl,rfl⟩
  ·rw[zaa Z1,zaa Z1,af (by omega),af (by omega)];have e:(s.take ((s.length:Int) - 1).toNat)=P.take m:=by
    rw[show ((s.length:Int) - 1).toNat=m from by omega]
    conv=>lhs;rw[h1]
    rw[zfp,hm];congr 1;omega
   have el:(P.take m).length=m:=by rw[zbb];omega
   rw[e];exact .inr ⟨_,rfl,⟨by rw[el],by rw[el];omega⟩,by rw[el];omega,by simp only[el]⟩
theorem T4 (l:O aa) (b:Int) (hw:Wt l) (hl:l.length<=1000):kj l b=some (jb b l.length l):=by
 unfold kj dv;rw[af (by omega)];simp only[zac];refine (jM (λs:O aa×O aa×O aa=>some (s.1++(jb b l.length s.2.2).1,s.2.1++(jb b l.length s.2.2).2)) (λs=>Wt s.2.2/\s.1.length+s.2.1.length+s.2.2.length<=l.length) (λs=>s.2.2.length) ?_ (s:=(([]:O aa),([]:O aa),l)) ⟨hw,by simp⟩ (by simp only;omega)).trans (by simp);rintro ⟨out,left,rest⟩ ⟨h1,h2⟩;simp only at h1 h2 ⊢;unfold nM;cases rest with
 | nil =>
  rw[zaa (by simp)];refine .inl ⟨_,rfl,?_⟩;have:jb b l.length []=([],[]):=by cases l.length <;> rfl
  rw[this];simp
 | cons x t =>
  simp only[zad] at h2;have SN:=(F8 x (x::t)).length_le;have hrn:(dy x (x::t)).length=(dy x t).length+1:=by rw[zY];rfl
  have hwr:Wt (dy x (x::t)):=h1.sub (F8 _ _);have hws:Wt (gf x (x::t)):=h1.sub (T2 _ _);have Yt:=Dm x t;have htot:(dy x (x::t)).length+(gf x (x::t)).length=t.length+1:=by
   have:=zbn List.length (mG x (x::t));rw[zah] at this;exact this
  have hel:=HN (dy x (x::t));obtain ⟨m,hm⟩:∃ m,l.length=m+1:=⟨l.length-1,by omega⟩;have T3:jb b l.length (x::t)=if (dy x (x::t)).any (λr=>decide (b<=r.start))=true then ((jb b l.length (gf x (x::t))).1,dy x (x::t)++(jb b l.length (gf x (x::t))).2) else (Dl (dy x (x::t))++(jb b l.length (gf x (x::t))).1,(jb b l.length (gf x (x::t))).2):=by
   conv=>lhs;rw[hm];unfold jb
   rw[AE b m l.length (gf x (x::t)) (by omega) (by omega)]
  have hix:nC x 0 (x::t)=0:=by unfold nC;rw[zab (yx x)]
  simp only[zad] at SN;rw[zab (by simp),af (by simp only[zad];omega),show nth (x::t) (Int.toNat 0)=x from rfl];simp only[cg,zac];rw[show (⟨x.source,x.call⟩:aK)=yH x from rfl,ZW (x::t) x (by simp only[zad];omega),hix,zaa (by omega)];simp only[zac,Int.toNat_zero,List.drop_zero,HM,Int.zero_add,zcr];rw[af (by simp only[zad];omega),af (by simp only[zad];omega)];simp only[M6,HO];rw[Z0 _ b (by omega)];simp only[zac];rw[T3];by_cases Wh:(dy x (x::t)).any (λr=>decide (b<=r.start))=true
  ·rw[zab Wh,zab Wh,af (by omega)];refine .inr ⟨_,rfl,⟨hws,by simp only[zah];omega⟩,by simp only[zad];omega,?_⟩;simp
  ·rw[zaa Wh,zaa Wh,Wg x _ hwr HE (by omega)];have PG:=vL false x 1 0 (dy x (x::t));have U6:=yu false x 1 0 (dy x (x::t));obtain ⟨q1,q2,q3⟩:=Na (l:=dy x (x::t)) (zW false x 1 0 (dy x (x::t))) (gF false x 1 0 (dy x (x::t))).length;simp only[zac];rw[TX _ _ (by omega) (by omega) q1 (λa ha=>by have:=U6 a (q2 a ha);omega)];have he:Dl (dy x (x::t))=(im (er 0 (sI (dy x (x::t)) (gF false x 1 0 (dy x (x::t))) (gF false x 1 0 (dy x (x::t))).length) (dy x (x::t))).1).toList++(er 0 (sI (dy x (x::t)) (gF false x 1 0 (dy x (x::t))) (gF false x 1 0 (dy x (x::t))).length) (dy x (x::t))).2.map tZ:=by
    rw[zY];exact AF x _
   generalize sI (dy x (x::t)) (gF false x 1 0 (dy x (x::t))) (gF false x 1 0 (dy x (x::t))).length=at' at he;have V0:=AG 0 at' (dy x (x::t));have hpm:=Dr (i:=0) (at':=at') hwr.sm;simp only[zac];rw[K5 _ hpm.1 (by omega)];simp only[zac];generalize hpg:er 0 at' (dy x (x::t))=pk at V0 he;have key:∀ (o:O aa) (c0 c1 c2:Int) (c3 c4:O uA) (c5 c6 c7 c8:Int) (c9:Bool) (ZT:Int) (ZU:Bool),o.length<=2000->eV left (x::t) ((0:Int),((dy x (x::t)).length:Int)) pk o c0 c1 c2 c3 c4 c5 c6 c7 c8 c9 ZT ZU=some (.inl (o++pk.2.map tZ,left,gf x (x::t))):=by
    intro o c0 c1 c2 c3 c4 c5 c6 c7 c8 c9 ZT ZU ho;unfold eV;refine bm pk.2 (λs:O aa×Int=>s.2) (λs t'=>(some (Sum.inl (s.1++t'.map tZ,left,gf x (x::t))):J ((O aa×O aa×O aa) ⊕ (O aa×O aa)))) (λs t'=>(s.1.length:Int)<=s.2+2000) (by omega) ?_ ?_ (s:=(o,(0:Int))) rfl (by simp only;omega)
    ·rintro ⟨q,i⟩ h hi;simp only at h hi ⊢;unfold kx;rw[zaa (by simp only[zak];omega)];refine ⟨_,rfl,?_⟩;simp only[zcr,HO];simp
    ·rintro ⟨q,i⟩ r t' h ia fz hn hlen;simp only at h ia fz hn hlen ⊢;unfold kx;rw[zab (by simpa using fz),af ⟨ia,fz⟩,hn];simp only[je,zac];rw[af (by simp only[zad,zas];omega),af (by omega)];refine .inr ⟨_,rfl,by simp only[zah,zad,zas];omega,rfl,?_⟩;simp only[zao,zar];rfl
   cases Z1:im pk.1 with
   | none =>
    rw[Z1] at he;rw[zaa (by simp [vT,Wb]),key _ _ _ _ _ _ _ _ _ _ _ _ _ (by omega)];refine .inr ⟨_,rfl,⟨hws,?_⟩,by simp only[zad];omega,?_⟩
    ·have:=zbn List.length he;simp only[zei,zbt] at this;simp only[zah];omega
    ·rw[he];simp
   | some w =>
    rw[Z1] at he;rw[zab (show (vT (some w)).2=true from rfl),af (by simp only[zad,zas];omega),key _ _ _ _ _ _ _ _ _ _ _ _ _ (by simp only[zah,zad,zas];omega)];refine .inr ⟨_,rfl,⟨hws,?_⟩,by simp only[zad];omega,?_⟩
    ·have:=zbn List.length he;simp only[zea,zah,zad,zas] at this;simp only[zah,zad,zas];omega
    ·rw[he];simp [vT]
def lA (s:Int):Int->List Head->Int
 | k,[]=>k
 | k,h::t=>lA s (if h.source=s then h.number+1 else k) t
def Wi (h:Head):Prop:=-9223372036854775808<=h.number/\h.number<=9223372036854775806
theorem Wj (l:O Head) (n:Nat) (s:Int) (hn:n<=l.length) (hl:l.length<=100000) (uq:∀ h,h∈l.take n->Wi h):vo l (n:Int) s=some (lA s 1 (l.take n)):=by
 unfold vo;have fO:(l.take n).length=n:=by rw[zbb];omega
 refine bm (l.take n) (λst:Int×Int=>st.2) (λst t=>some (lA s st.1 t)) (λst t=>∀ h,h∈t->Wi h) (by omega) ?_ ?_ (s:=((1:Int),(0:Int))) rfl uq
 ·rintro ⟨k,i⟩ _ hi;simp only at hi ⊢;unfold sR;rw[zaa (by simp only[zak];omega)];exact ⟨_,rfl,rfl⟩
 ·rintro ⟨k,i⟩ h t ht ia fz hx hlen;simp only at ht ia fz hx hlen ⊢;have lO:nth l i.toNat=h:=by
   rw[←hx,og (by omega),og (by omega),List.getElem_take]
  have:=ht h (zaj ..);unfold Wi at this;unfold sR;rw[zab (by simp only[zak];omega),af (by omega),lO];by_cases hs:h.source=s
  ·rw[zab (by simpa using hs),af (by omega),af (by omega),af (by omega)];refine .inr ⟨_,rfl,λx hx=>ht x (zai _ hx),rfl,?_⟩;simp only[lA,hs,zby]
  ·rw[zaa (by simpa using hs),af (by omega)];refine .inr ⟨_,rfl,λx hx=>ht x (zai _ hx),rfl,?_⟩;simp only[lA,hs,zbw]
def ED (h:Head):Prop:=(1<=h.source/\h.source<=99)/\(1<=h.number/\h.number<=999999999)/\(1<=h.format/\h.format<=3)/\(0<=h.count/\h.count<=4096)
instance (h:Head):Decidable (ED h):=by unfold ED;infer_instance
def Nb:List Head->List Head->Bool
 | _,[]=>true
 | d,h::t=>decide (ED h/\h.number=lA h.source 1 d) && Nb (d++[h]) t
theorem K7 {h:Head} (o:ED h):Wi h:=by unfold ED at o;unfold Wi;omega
theorem HP:∀ {d l:O Head},Nb d l=true->∀ h,h∈l->ED h
 | _,[],_,h,hm=>by cases hm
 | d,x::l,hb,h,hm=>by
  simp only[Nb,zat,zak] at hb;rcases zan.1 hm with rfl|hm
  ·exact hb.1.1
  ·exact HP hb.2 h hm
def qC (r:Range):Prop:=(1<=r.source/\r.source<=99)/\1<=r.from_/\r.from_<=r.kV/\r.kV<=999999999
instance (r:Range):Decidable (qC r):=by unfold qC;infer_instance
def BA (p r:Range):Prop:=p.source<r.source∨(p.source=r.source/\p.kV+1<r.from_)
instance (p r:Range):Decidable (BA p r):=by unfold BA;infer_instance
def zZ:Option Range->List Range->Bool
 | _,[]=>true
 | none,r::t=>decide (qC r) && zZ (some r) t
 | some p,r::t=>decide (qC r/\BA p r) && zZ (some r) t
structure Can (l:O Range):Prop where
 ok:∀ r,r∈l->qC r
 FI:l.Pairwise BA
theorem z6:∀ (o:J Range) (t:O Range),(∀ p,o=some p->qC p)->(zZ o t=true↔(∀ r,r∈t->qC r)/\(o.toList++t).Pairwise BA)
 | o,[],_=>by cases o <;> simp [zZ]
 | none,r::t,_=>by
  simp only[zZ,zat,zak,zei,zbt];constructor
  ·rintro ⟨h1,h2⟩;have ih:=(z6 (some r) t (λp hp=>by cases hp;exact h1)).1 h2;simp only[zea,zbr] at ih;refine ⟨λx hx=>?_,ih.2⟩;rcases zan.1 hx with rfl|hx
   ·exact h1
   ·exact ih.1 x hx
  ·rintro ⟨h1,h2⟩;refine ⟨h1 r (zaj ..),(z6 (some r) t (λp hp=>by cases hp;exact h1 r (zaj ..))).2 ⟨λx hx=>h1 x (zai _ hx),by simpa using h2⟩⟩
 | some p,r::t,hp=>by
  simp only[zZ,zat,zak,zea,zbr];constructor
  ·rintro ⟨⟨h1,h3⟩,h2⟩;have ih:=(z6 (some r) t (λp hp=>by cases hp;exact h1)).1 h2;simp only[zea,zbr] at ih;refine ⟨λx hx=>?_,zav.2 ⟨λx hx=>?_,ih.2⟩⟩
   ·rcases zan.1 hx with rfl|hx
    ·exact h1
    ·exact ih.1 x hx
   ·rcases zan.1 hx with rfl|hx
    ·exact h3
    ·have h4:=(zav.1 ih.2).1 x hx;unfold qC at h1;unfold BA at h3 h4 ⊢;omega
  ·rintro ⟨h1,h2⟩;have h3:=zav.1 h2;have hr:=h1 r (zaj ..);exact ⟨⟨hr,h3.1 r (zaj ..)⟩,(z6 (some r) t (λp hp=>by cases hp;exact hr)).2 ⟨λx hx=>h1 x (zai _ hx),by simpa using h3.2⟩⟩
theorem Qo (l:O Range):zZ none l=true↔Can l:=by
 rw[z6 none l (λp hp=>by cases hp)];simp only[zei,zbt];exact ⟨λh=>⟨h.1,h.2⟩,λh=>⟨h.ok,h.FI⟩⟩
theorem xz (s n:Int):((((decide (s>=1)) && (decide (s<=99))) && (decide (n>=1))) && (decide (n<=999999999)))=decide ((1<=s/\s<=99)/\1<=n/\n<=999999999):=by
 rw[zbl,zbs];simp;omega
def hasB (l:O Range) (s n:Int):Bool:=l.any λr=>decide (r.source=s/\r.from_<=n/\n<=r.kV)
def Ds (s n:Int):Bool:=decide ((1<=s/\s<=99)/\1<=n/\n<=999999999)
theorem Z2 (l:O Range) (s n:Int) (hl:l.length<=100000):xi l s n=some (hasB l s n && Ds s n):=by
 unfold xi;refine bm l (λst:Int=>st) (λst t=>some (hasB t s n && Ds s n)) (λst t=>True) (by omega) ?_ ?_ rfl trivial
 ·intro i _ hi;unfold uK;rw[zaa (by simp only[zak];omega)];exact ⟨_,rfl,by simp [hasB]⟩
 ·intro i r t _ ia fz hx hlen;unfold uK;rw[zab (by simpa using fz),af ⟨ia,fz⟩,af (λ_=>⟨ia,fz⟩),af (λ_=>⟨ia,fz⟩),hx];by_cases h:r.source=s/\r.from_<=n/\n<=r.kV
  ·rw[zab (by simp [h.1,h.2.1,h.2.2])];simp only[mC,xz,zac];exact .inl ⟨_,rfl,by simp [hasB,h,Ds]⟩
  ·rw[zaa (by simp only[zat,zec,zak];exact λhh=>h ⟨hh.1.1,hh.1.2,hh.2⟩),af (by omega)]
   refine .inr ⟨_,rfl,trivial,rfl,?_⟩;unfold hasB;rw[zcs,zda h,zdm]
def nN (s:Int):List Range->Int
 | []=>0
 | r::t=>(if r.source=s then r.kV-r.from_+1 else 0)+nN s t
def yz (s:Int):List Head->Int
 | []=>0
 | h::t=>(if h.source=s then h.count else 0)+yz s t
def Z3 (l:List Range) (hs:List Head):Nat->Int->Bool
 | 0,_=>true
 | m+1,s=>decide (nN s l<=yz s hs) && Z3 l hs m (s+1)
theorem K8 (s:Int):∀ {l:O Range},(∀ r,r∈l->qC r)->0<=nN s l/\nN s l<=l.length*1000000000
 | [],_=>by simp [nN]
 | r::l,h=>by
  have ih:=K8 s (l:=l) (λx hx=>h x (zai _ hx));have hr:=h r (zaj ..);unfold qC at hr;simp only[nN,zad];split <;> omega
theorem F9 (s:Int):∀ {l:O Head},(∀ r,r∈l->ED r)->0<=yz s l/\yz s l<=l.length*5000
 | [],_=>by simp [yz]
 | r::l,h=>by
  have ih:=F9 s (l:=l) (λx hx=>h x (zai _ hx));have hr:=h r (zaj ..);unfold ED at hr;simp only[yz,zad];split <;> omega
def z7 (a b:aa):Bool:=decide (a.source=b.source) && decide (a.aF=b.aF)
def T5 (l:List Range):List aa->List aa->Bool
 | _,[]=>true
 | d,r::t=>(hasB l r.source r.aF && Ds r.source r.aF) && !(d.any λx=>z7 x r) && T5 l (d++[r]) t
def ckF (v:aG):Bool:=Nb [] v.aP && zZ none v.seen && (FJ none v.open_ && ZV v.open_ v.open_) && Z3 v.seen v.aP 99 1 && T5 v.seen [] v.open_
structure SmI (v:aG):Prop where
 seen:v.seen.length<=1000
 aP:v.aP.length<=1000
 opens:v.open_.length<=1000
 sm:∀ r,r∈v.open_->Sm r
structure o7 (v:aG):Prop where
 aP:Nb [] v.aP=true
 can:Can v.seen
 T6:RI v.open_
 Gx:Z3 v.seen v.aP 99 1=true
 ids:T5 v.seen [] v.open_=true
theorem Qp (v:aG):ckF v=true↔o7 v:=by
 unfold ckF;simp only[zat];rw[Qo];constructor
 ·rintro ⟨⟨⟨⟨h1,h2⟩,h3⟩,h4⟩,h5⟩;exact ⟨h1,h2,(F6 _).1 (by simpa using h3),h4,h5⟩
 ·rintro ⟨h1,h2,h3,h4,h5⟩;exact ⟨⟨⟨⟨h1,h2⟩,by simpa using (F6 _).2 h3⟩,h4⟩,h5⟩
theorem Head.uO (h:Head):et h.bM h.bM=true:=by simp [Head.bM,et,N8]
theorem Range.uO (h:Range):et h.bM h.bM=true:=by simp [Range.bM,et,N8]
theorem ai.uO (h:ai):et h.bM h.bM=true:=by simp [ai.bM,et,N8]
theorem Nc (a:O aa) (hl:a.length<=10000):sB a a=some true:=by
 unfold sB;rw[zaa (by simp),vJ a (λ_=>true) true true (by omega) (λi h0 h1=>?_) (λi hi=>?_)]
 ·simp
 ·unfold sX;rw[zab (by simpa using h1),af (by omega),af (by omega),zaa (by rw[aa.uO];simp),af (by omega)];rfl
 ·unfold sX;rw[zaa (by simp;omega)]
theorem T7 (a:O Range) (hl:a.length<=10000):vu a a=some true:=by
 unfold vu;rw[zaa (by simp),vJ a (λ_=>true) true true (by omega) (λi h0 h1=>?_) (λi hi=>?_)]
 ·simp
 ·unfold sW;rw[zab (by simpa using h1),af (by omega),af (by omega),zaa (by rw[Range.uO];simp),af (by omega)];rfl
 ·unfold sW;rw[zaa (by simp;omega)]
theorem T8 (v:aG) (h1:v.seen.length<=10000) (h2:v.open_.length<=10000) (h3:v.aP.length<=10000):vv v v=some true:=by
 unfold vv;rw[zaa (by simp),vJ v.aP (λ_=>true) true true (by omega) (λi h0 h1=>?_) (λi hi=>?_)]
 ·simp
 ·unfold sY;rw[zab (by simpa using h1),af (by omega),af (by omega),zaa (by rw[Head.uO];simp),af (by omega)];rfl
 ·unfold sY qk;rw[zaa (by simp;omega),T7 _ h1,Nc _ h2];rfl
theorem Nd (b:Int):∀ (m:Nat) (l:O aa),(jb b m l).1.length+(jb b m l).2.length<=l.length
 | 0,l=>by simp [jb]
 | m+1,[]=>by simp [jb]
 | m+1,x::l=>by
  have h1:=Nd b m (gf x (x::l));have h2:=zbn List.length (mG x (x::l));have h3:=HN (dy x (x::l));rw[zah] at h2;unfold jb;split <;> simp only[zah] <;> omega
theorem HQ (s:Int):∀ (k:Int) (l:O Head) (h:Head),lA s k (l++[h])=if h.source=s then h.number+1 else lA s k l
 | k,[],h=>by simp only[zbt,lA]
 | k,x::l,h=>by simp only[List.cons_append,lA];exact HQ s _ l h
theorem O9 (v:aG) (s:Int) (hl:v.aP.length<=100000) (uq:∀ h,h∈v.aP->Wi h):iP v s=some (if 1<=s/\s<=99 then lA s 1 v.aP else 0):=by
 unfold iP;by_cases hs:1<=s/\s<=99
 ·rw[zaa (by simp;omega),zab hs,af (by omega)];refine (jM (λi:Int=>some (lA s 1 (v.aP.take (i+1).toNat))) (λi=>-1<=i/\i<(v.aP.length:Int)) (λi=>(i+1).toNat) ?_ (s:=(v.aP.length:Int) - 1) (by omega) (by omega)).trans ?_
  ·rintro i ⟨h1,h2⟩;unfold sr;by_cases h0:i>=0
   ·have hm:nth v.aP i.toNat∈v.aP:=kB (by omega);have ho:=uq _ hm;unfold Wi at ho;rw[zab (by simpa using h0),af (by omega),show (i+1).toNat=i.toNat+1 from by omega,ta (by omega),HQ];by_cases he:(nth v.aP i.toNat).source=s
    ·rw[zab (by simpa using he),af (by omega),af (by omega),zab he];exact .inl ⟨_,rfl,rfl⟩
    ·rw[zaa (by simpa using he),af (by omega),zaa he];exact .inr ⟨i-1,rfl,by omega,by omega,by rw[show i-1+1=i from by omega]⟩
   ·rw[zaa (by simpa using h0)];have:i=-1:=by omega
    subst this;exact .inl ⟨_,rfl,rfl⟩
  ·rw[show ((v.aP.length:Int) - 1+1).toNat=v.aP.length from by omega,List.take_length]
 ·rw[zab (by simp;omega),zaa hs]
theorem Wk (v:aG) (s:Int) (hl:v.aP.length<=100000) (uq:∀ h,h∈v.aP->Wi h):vq v s=some (if 1<=s/\s<=99 then lA s 1 v.aP else 0):=by
 unfold vq;by_cases hs:1<=s/\s<=99
 ·have:=Wj v.aP v.aP.length s (zaq _) hl (by rw[List.take_length];exact uq);rw[List.take_length] at this;rw[zaa (by simp;omega),zab hs,this];rfl
 ·rw[zab (by simp;omega),zaa hs]
theorem Head.eq_iff (a b:Head):et a.bM b.bM=true↔a=b:=by cases a;cases b;simp [Head.bM,et,N8]
theorem aa.eq_iff (a b:aa):et a.bM b.bM=true↔a=b:=by cases a;cases b;simp [aa.bM,et,N8]
def Pb (m:O (Int×Int)) (l:O Head):Prop:=∀ s,(aC m s).getD 0=yz s l
theorem EE (s:Int):∀ (l:O Head) (h:Head),yz s (l++[h])=yz s l+(if h.source=s then h.count else 0)
 | [],h=>by simp [yz]
 | x::l,h=>by simp only[List.cons_append,yz,EE s l h];omega
theorem Pb.step {m:O (Int×Int)} {l:O Head} (h:Pb m l) (x:Head):Pb (dm m x.source ((aC m x.source).getD 0+x.count)) (l++[x]):=λs=>by
 rw[dV,EE];by_cases he:x.source=s
 ·rw[zab (by simpa using he.symm),zab he,zcj,h x.source,he]
 ·rw[zaa (by simpa using λe:s=x.source=>he e.symm),zaa he,h s];omega
theorem headC {x:Head} {d:O Head} {y:Int} (hy:y=if 1<=x.source/\x.source<=99 then lA x.source 1 d else 0) (hn:1<=lA x.source 1 d):((((((((!(et (Head.bM x) (Head.bM (⟨x.source,y,x.format,x.count⟩:Head)))) || (decide (x.source<1))) || (decide (x.source > 99))) || (decide (x.format<1))) || (decide (x.format>=4))) || (decide (x.count<0))) || (decide (x.count > 4096))) || (decide (x.number > 999999999)))=!decide (ED x/\x.number=lA x.source 1 d):=by
 have e:et (Head.bM x) (Head.bM (⟨x.source,y,x.format,x.count⟩:Head))=decide (x.number=y):=by
  rw[zbl,Head.eq_iff,zbs];cases x;simp
 rw[e,zbl];unfold ED;simp only[zbv,zdu,zct,zak];by_cases hs:1<=x.source/\x.source<=99
 ·rw[zab hs] at hy;subst hy;omega
 ·omega
theorem JG (s:Int):∀ {k:Int} {l:O Head},1<=k->(∀ h,h∈l->ED h)->1<=lA s k l
 | k,[],hk,_=>hk
 | k,x::l,hk,h=>by
  have:=h x (zaj ..);unfold ED at this;simp only[lA];exact JG s (by split <;> omega) (λy hy=>h y (zai _ hy))
theorem Wl (l:O Head) (i:Int) (h0:0<=i) (h1:i<=(l.length:Int)) (s:Int) (hl:l.length<=100000) (uq:∀ h,h∈l.take i.toNat->ED h):iP (⟨([]:O Range),([]:O aa),l.take i.toNat⟩:aG) s=some (if 1<=s/\s<=99 then lA s 1 (l.take i.toNat) else 0) :=
 O9 _ s (by simp only[zbb];omega) (λh hh=>K7 (uq h hh))
theorem Dt {S R:Type} {step:S->J (S ⊕ R)} {n:Nat} {s s':S} (h:step s=some (.inl s')):iter step (n+1) s=iter step n s':=by simp [iter,h]
theorem tF {S R:Type} {step:S->J (S ⊕ R)} {n:Nat} {s:S} {r:R} (h:step s=some (.inr r)):iter step (n+1) s=some r:=by simp [iter,h]
theorem RQ {S R:Type} {step:S->J (S ⊕ R)} {n:Nat} {s:S} (h:step s=none):iter step (n+1) s=none:=by simp [iter,h]
theorem Wm (l:O Head) (hl:l.length<=100000):(Nb [] l=true->∃ m,kb l=some m/\Pb m l)/\(Nb [] l=false->kb l=none/\nV l=some ()):=by
 have key:∀ (t:O Head) (n:Nat) (i:Int) (m:O (Int×Int)),t.length<=n->0<=i->i<=(l.length:Int)->l.drop i.toNat=t->(∀ h,h∈l.take i.toNat->ED h)->Pb m (l.take i.toNat) ->
   (Nb (l.take i.toNat) t=true->∃ m',iter (λs=>dx l s.1 s.2) (n+1) (i,m)=some m'/\Pb m' l)/\(Nb (l.take i.toNat) t=false->iter (λs=>dx l s.1 s.2) (n+1) (i,m)=none/\iter (λs=>dR l s.1 s.2) (n+1) (i,m)=some ()):=by
  intro t
  induction t with
  | nil =>
   intro n i m hn h0 h1 hd uq hm;have hlen:l.length<=i.toNat:=by
    have:=zbn List.length hd;rw[zbh] at this;simp only[zas] at this;omega
   refine ⟨λ_=>⟨m,?_,?_⟩,λh=>by simp [Nb] at h⟩
   ·refine tF ?_;show dx l i m=_;unfold dx;rw[zaa (by simp only[zak];omega)]
   ·rwa [zbz hlen] at hm
  | cons x t ih =>
   intro n i m hn h0 h1 hd uq hm;have hlen:i.toNat<l.length:=by
    have:=zbn List.length hd;rw[zbh] at this;simp only[zad] at this;omega
   have hx:nth l i.toNat=x:=by
    have:=oh (l:=l) (k:=i.toNat) hlen;rw[hd] at this;exact (List.cons.inj this).1.symm
   have Yb:l.drop (i+1).toNat=t:=by
    have:=oh (l:=l) (k:=i.toNat) hlen;rw[hd] at this;rw[show (i+1).toNat=i.toNat+1 from by omega];exact (List.cons.inj this).2.symm
   have hc:=headC (x:=x) (d:=l.take i.toNat) rfl (JG _ (by omega) uq);by_cases hq:ED x/\x.number=lA x.source 1 (l.take i.toNat)
   ·have hq1:=hq.1;have hb:=F9 x.source uq;rw[zbb] at hb;unfold ED at hq1;have yZ:l.take (i+1).toNat=l.take i.toNat++[x]:=by rw[show (i+1).toNat=i.toNat+1 from by omega,ta hlen,hx]
    have hok':∀ h,h∈l.take (i+1).toNat->ED h:=by
     rw[yZ];intro y hy;rcases zbc.1 hy with hy|hy
     ·exact uq y hy
     ·simp at hy;subst hy;exact hq.1
    have yJ:=hm.step x;rw[←yZ] at yJ;have Gr:=hm x.source;obtain ⟨n,rfl⟩:∃ k,n=k+1:=⟨n-1,by simp only[zad] at hn;omega⟩;have:=ih n (i+1) _ (by simp only[zad] at hn;omega) (by omega) (by omega) Yb hok' yJ;have e1:dx l i m=some (.inl (i+1,dm m x.source ((aC m x.source).getD 0+x.count))):=by
     unfold dx;rw[zab (by simp only[zak];omega),af (by omega),af (by omega),hx,Wl l i h0 h1 _ hl uq];simp only[zac];rw[hc,zaa (by simp [hq]),af (by omega),af (by omega)]
    have e2:dR l i m=some (.inl (i+1,dm m x.source ((aC m x.source).getD 0+x.count))):=by
     unfold dR;rw[zab (by simp only[zak];omega),af (by omega),af (by omega),hx,Wl l i h0 h1 _ hl uq];simp only[zac];rw[hc,zaa (by simp [hq]),af (by omega),af (by omega)]
    rw[Dt (step:=λs:Int×O (Int×Int)=>dx l s.1 s.2) (s:=(i,m)) e1,Dt (step:=λs:Int×O (Int×Int)=>dR l s.1 s.2) (s:=(i,m)) e2];simp only[Nb,zdt hq,zcu];rw[←yZ];exact this
   ·simp only[Nb,zda hq,zdg];refine ⟨λh=>(zdz h).elim,λ_=>?_⟩;have e1:dx l i m=none:=by
     unfold dx;rw[zab (by simp only[zak];omega),af (by omega),af (by omega),hx,Wl l i h0 h1 _ hl uq];simp only[zac];rw[hc,zab (by simp [hq])]
    have e2:dR l i m=some (.inr ()):=by
     unfold dR;rw[zab (by simp only[zak];omega),af (by omega),af (by omega),hx,Wl l i h0 h1 _ hl uq];simp only[zac];rw[hc,zab (by simp [hq])]
    exact ⟨RQ (step:=λs:Int×O (Int×Int)=>dx l s.1 s.2) (s:=(i,m)) e1,tF (step:=λs:Int×O (Int×Int)=>dR l s.1 s.2) (s:=(i,m)) e2⟩
 have:=key l 18446744073709551615 0 [] (by omega) (by omega) (by omega) rfl (by simp) (λs=>by simp [r9,yz]);exact this
theorem half {i j:Int} (h0:0<=i) (h1:i<=1000000) (h2:0<=j) (h3:j<=1000000):IntKind.wrap .i64 (Int.fdiv (IntKind.wrap .u64 (i+j)) (2 ^ (min (Int.toNat (1)) 64)))=(i+j) / 2:=by
 have e1:IntKind.wrap .u64 (i+j)=i+j:=by
  have:IntKind.wrap .u64 (i+j)=(i+j) % 18446744073709551616:=rfl;rw[this];omega
 have e2:Int.fdiv (i+j) (2 ^ (min (Int.toNat (1)) 64))=(i+j) / 2:=by
  rw[Int.fdiv_eq_ediv_of_nonneg _ (by decide)];rfl
 rw[e1,e2];exact Yd (by omega) (by omega)
def PL (s n:Int) (r:Range):Prop:=r.source > s∨(r.source=s/\r.kV>=n)
instance (s n:Int) (r:Range):Decidable (PL s n r):=by unfold PL;infer_instance
theorem Du {s n:Int} {a b:Range} (h:BA a b) (hb:qC b) (hp:PL s n a):PL s n b:=by
 unfold PL BA qC at *;omega
def AI (s n:Int) (l:O Range):Nat:=(l.takeWhile λr=>!decide (PL s n r)).length
theorem Pc (s n:Int) (l:O Range):AI s n l<=l.length:=(List.takeWhile_sublist _).length_le
theorem z8 (s n:Int) (r:Range) (l:O Range):AI s n (r::l)=if PL s n r then 0 else AI s n l+1:=by
 unfold AI;rw[List.takeWhile_cons];by_cases h:PL s n r <;> simp [h]
theorem Nf (s n:Int):∀ {l:O Range} {k:Nat},k<=l.length->(∀ j,j<k->¬PL s n (nth l j))->(k<l.length->PL s n (nth l k))->AI s n l=k
 | [],k,hk,_,_=>by simp at hk;subst hk;rfl
 | r::l,0,_,_,h=>by
  rw[z8,zab];have:=h (by simp)
  rwa [fX] at this
 | r::l,k+1,hk,h1,h2=>by
  have:=h1 0 (by omega);rw[fX] at this;rw[z8,zaa this,Nf s n (k:=k) (by simpa using hk) (λj hj=>by
   have:=h1 (j+1) (by omega)
   rwa [fx] at this) (λhk=>by
   have:=h2 (by simpa using hk)
   rwa [fx] at this)]
theorem Can.mono {l:O Range} (h:Can l) {s n:Int} {i j:Nat} (PK:i<=j) (hj:j<l.length) (hp:PL s n (nth l i)):PL s n (nth l j):=by
 by_cases e:i=j
 ·subst e;exact hp
 ·have:=List.pairwise_iff_getElem.1 h.FI i j (by omega) hj (by omega);rw[←og,←og] at this;exact Du this (h.ok _ (kB hj)) hp
theorem HR (l:O Range) (s n:Int) (hc:Can l) (hl:l.length<=100000):lL (l.length:Int) l s n=some (AI s n l:Int):=by
 unfold lL;obtain ⟨r,h1,h2⟩:=uT (step:=λst:Int×Int=>jO l s n st.1 st.2) (λr=>r=(AI s n l:Int)) (λst:Int×Int=>0<=st.1/\st.1<=st.2/\st.2<=(l.length:Int)/\(∀ k:Nat,(k:Int)<st.1->¬PL s n (nth l k))/\(st.2<(l.length:Int)->PL s n (nth l st.2.toNat))) (λst=>(st.2-st.1).toNat) (by
  rintro ⟨i,j⟩ ⟨a0,a1,a2,a3,a4⟩;simp only at a0 a1 a2 a3 a4 ⊢;unfold jO kO;by_cases h:i<j
  ·rw[zab (by simpa using h),af (by omega),af (by omega),half a0 (by omega) (by omega) (by omega),af (by omega)];simp only[zac];have e:((decide ((nth l ((i+j) / 2).toNat).source > s)) || ((((nth l ((i+j) / 2).toNat).source)==s) && (decide (((nth l ((i+j) / 2).toNat).kV)>=n))))=decide (PL s n (nth l ((i+j) / 2).toNat)):=by
    rw[zbl];unfold PL;simp
   rw[e];by_cases hp:PL s n (nth l ((i+j) / 2).toNat)
   ·rw[zaa (by simp [hp])];exact .inr ⟨_,rfl,⟨by omega,by simp only;omega,by simp only;omega,a3,λ_=>hp⟩,by simp only;omega⟩
   ·rw[zab (by simp [hp]),af (by omega)];refine .inr ⟨_,rfl,⟨by simp only;omega,by simp only;omega,a2,λk hk V0=>hp (hc.mono (i:=k) (by simp only at hk;omega) (by omega) V0),a4⟩,by simp only;omega⟩
  ·rw[zaa (by simpa using h)];refine .inl ⟨_,rfl,?_⟩;have e:j=i:=by omega
   subst e;have:=Nf s n (l:=l) (k:=j.toNat) (by omega) (λk hk=>a3 k (by omega)) (λhk=>a4 (by omega));omega) (s:=((0:Int),(l.length:Int))) ⟨by simp,by simp,by simp,λk hk=>by simp only at hk;omega,λh=>by simp at h⟩ (by simp only;omega)
 rw[h1,h2]
theorem Wn {l:O Range} (hc:Can l) (s n:Int):hasB l s n=(decide (AI s n l<l.length) && (decide ((nth l (AI s n l)).source=s) && decide ((nth l (AI s n l)).from_<=n))):=by
 induction l with
 | nil=>rfl
 | cons r l ih =>
  have hs:=zav.1 hc.FI;have tH:Can l:=⟨λx hx=>hc.ok x (zai _ hx),hs.2⟩;rw[z8];by_cases hp:PL s n r
  ·rw[zab hp,fX];have hr:=hc.ok r (zaj ..);unfold hasB;rw[zcs];by_cases hh:r.source=s/\r.from_<=n
   ·have:n<=r.kV:=by unfold PL at hp;omega
    simp [hh.1,hh.2,this]
   ·have h1:decide (r.source=s/\r.from_<=n/\n<=r.kV)=false:=zda (λh=>hh ⟨h.1,h.2.1⟩);have h2:(l.any λr=>decide (r.source=s/\r.from_<=n/\n<=r.kV))=false:=by
     rw[zel];intro x hx hx2;have hx2:=zcv hx2;have h3:=hs.1 x hx;unfold PL BA qC at *;omega
    rw[h1,h2,zdh];have:(decide (r.source=s) && decide (r.from_<=n))=false:=by
     rw[←Bool.decide_and];exact zda hh
    rw[this,Bool.and_false]
  ·rw[zaa hp,fx];have:hasB (r::l) s n=hasB l s n:=by
    unfold hasB;rw[zcs,zda (by unfold PL at hp;omega),zdm]
   rw[this,ih tH];simp
theorem T9 (l:O Range) (s n:Int) (hc:Can l) (hl:l.length<=100000):oA l s n=some (hasB l s n && Ds s n):=by
 unfold oA qb;rw[HR l s n hc hl];have hle:=Pc s n l;simp only[zac,eh,xz];rw[af (λh=>by simp at h;omega),af (λh=>by simp at h;omega),Wn hc];congr 1;unfold Ds;rw[show ((AI s n l:Nat):Int).toNat=AI s n l from by omega];have e:decide (((AI s n l:Nat):Int)<(l.length:Int))=decide (AI s n l<l.length):=by
  rw[zbl,zbs,zbs];omega
 rw[e];generalize decide ((1<=s/\s<=99)/\1<=n/\n<=999999999)=b1;generalize decide (AI s n l<l.length)=b2;rw[show ((nth l (AI s n l)).source==s)=decide ((nth l (AI s n l)).source=s) from rfl];generalize decide ((nth l (AI s n l)).source=s)=b3;generalize decide ((nth l (AI s n l)).from_<=n)=b4;cases b1 <;> cases b2 <;> cases b3 <;> cases b4 <;> rfl
theorem Ua (l:O Range) (hl:l.length<=100000):nH l=some (zZ none l):=by
 unfold nH;have:=bm l (step:=λs=>mA l s) (λs:Int=>s) (λs t=>some (zZ (if s=0 then none else some (nth l (s-1).toNat)) t)) (λs t=>s≠0->qC (nth l (s-1).toNat)) (by omega) (s:=0) ?_ ?_ rfl (by simp)
 ·exact this
 ·intro i _ hi;unfold mA;rw[zaa (by simp only[zak];omega)];exact ⟨_,rfl,by simp [zZ]⟩
 ·intro i r t hpv ia fz hx hlen;unfold mA;rw[zab (by simpa using fz),af ⟨ia,fz⟩,hx];simp only[eh,xz,zac,Bool.not_not,kp];have e1:(i+1=0)=False:=by simp;omega
  have e2:(i+1-1).toNat=i.toNat:=by omega
  by_cases hr:qC r
  ·have YO:=hr;unfold qC at YO;have d1:decide ((1<=r.source/\r.source<=99)/\1<=r.from_/\r.from_<=999999999)=true:=by simp;omega
   have d2:decide ((1<=r.source/\r.source<=99)/\1<=r.kV/\r.kV<=999999999)=true:=by simp;omega
   simp only[d1,d2,zby,zci,zdm];rw[zaa (by simp;omega)];by_cases h0:i=0
   ·subst h0;rw[zaa (by simp),af (by omega)];refine .inr ⟨_,rfl,λ_=>?_,rfl,?_⟩
    ·rw[e2,hx];exact hr
    ·simp only[e1,zbw,e2,hx,zby];simp only[zZ,zdt hr,zcu]
   ·have hp:=hpv h0;have hgt:i > 0:=by omega
    rw[zaa h0];rw[zab (by simpa using hgt),af (by omega),af (by omega)];generalize nth l (i-1).toNat=p at hp ⊢;have Q4:=hp;unfold qC at Q4;rw[af (λ_=>by omega)];by_cases cT:BA p r
    ·have mI:=cT;unfold BA at mI;rw[zaa (by simp;omega),af (by omega)];refine .inr ⟨_,rfl,λ_=>?_,rfl,?_⟩
     ·rw[e2,hx];exact hr
     ·simp only[e1,zbw,e2,hx];simp only[zZ,zdt (And.intro hr cT),zcu]
    ·have mI:=cT;unfold BA at mI;rw[zab (by simp;omega)];exact .inl ⟨_,rfl,by simp only[zZ,zda (λh:qC r/\BA p r=>cT h.2),zdg]⟩
  ·have YO:=hr;unfold qC at YO;rw[zab (by
    by_cases d1:(1<=r.source/\r.source<=99)/\1<=r.from_/\r.from_<=999999999
    ·by_cases d2:(1<=r.source/\r.source<=99)/\1<=r.kV/\r.kV<=999999999
     ·simp only[zdt d1,zdt d2,zby,zci,zdm,zak];omega
     ·simp only[zdt d1,zda d2,zby,zci,zcm,zdm,zfd]
    ·simp only[zda d1,zcm,zfd])]
   refine .inl ⟨_,rfl,?_⟩;by_cases h0:i=0
   ·simp [h0,zZ,hr]
   ·simp [h0,zZ,hr]
theorem Ng {x r:aa} {n:Int} {l:O aa} (hc:bI r x=true/\r.part=n) (hl:r.last=true):kM true x n (r::l)=([r],l):=by
 rw[kM,zab hc,zab ⟨rfl,hl⟩]
theorem Nh {x r:aa} {n:Int} {l:O aa} (hc:bI r x=true/\r.part=n) (hl:¬r.last=true):kM true x n (r::l)=(r::(kM true x (n+1) l).1,(kM true x (n+1) l).2):=by
 rw[kM,zab hc,zaa (λh=>hl h.2)]
theorem Ni {x r:aa} {n:Int} {l:O aa} (hc:¬(bI r x=true/\r.part=n)):kM true x n (r::l)=((kM true x n l).1,r::(kM true x n l).2):=by
 rw[kM,zaa hc]
theorem HS {x:aa}:∀ {n:Int} {pre:O aa} (post:O aa),(kM true x n pre).1.getLast?.map (·.last)=some true->(kM true x n (pre++post)).1=(kM true x n pre).1
 | n,[],post,h=>by simp [kM] at h
 | n,r::l,post,h=>by
  rw[List.cons_append];by_cases hc:bI r x=true/\r.part=n
  ·by_cases hl:r.last=true
   ·rw[Ng hc hl,Ng hc hl]
   ·rw[Nh hc hl] at h ⊢;rw[Nh hc hl];simp only at h ⊢;have fK:(kM true x (n+1) l).1≠[]:=by
     intro e;rw[e] at h;simp at h;exact hl h
    have h':(kM true x (n+1) l).1.getLast?.map (·.last)=some true:=by
     rw[←h];cases Cs:(kM true x (n+1) l).1 with
     | nil=>exact absurd Cs fK
     | cons y t=>simp [List.getLast?_cons_cons]
    rw[HS post h']
  ·rw[Ni hc] at h ⊢;rw[Ni hc];exact HS post h
theorem Z4 {pre post:O aa} (h:∀ x,kq (kM true x 1 (pre++post)).1=none) (x:aa):kq (kM true x 1 pre).1=none:=by
 cases hc:kq (kM true x 1 pre).1 with
 | none=>rfl
 | some w =>
  have:=HS post (MY hc).2;have h2:=h x;rw[this,hc] at h2;cases h2
theorem Nj:∀ {l:O aa} {p:aa},(∀ y,y∈l->Le y p)->mK l p=l++[p]
 | [],p,_=>rfl
 | y::l,p,h=>by
  have h1:=h y (zaj ..);unfold Le at h1;unfold mK;rw[zaa h1,Nj (λz hz=>h z (zai _ hz)),List.cons_append]
theorem Nk {l:O aa} (h:RI l):∀ (post pre:O aa),pre++post=l->eP pre post=([],l)
 | [],pre,e=>by rw[←e,zbp];rfl
 | r::post,pre,e=>by
  have hr:=h.ok r (by rw[←e];simp);have hs:Ob (pre++r::post):=by rw[e];exact h.FI
  have hle:∀ y,y∈pre->Le y r:=λy hy=>(zed.1 hs).2.2 y hy r (zaj ..)
  have e':(pre++[r])++post=l:=by rw[←e];simp
  have Fm:kq (kM true r 1 (pre++[r])).1=none:=Z4 (post:=post) (by rw[e'];exact h.nc) r;have mJ:iN pre r=([],pre++[r]):=by
   unfold iN;rw[zaa hr.2,Nj hle];show fv (pre.length+1+1) (pre++[r]) r=_;unfold fv;rw[Fm]
  unfold eP;rw[mJ,Nk h post (pre++[r]) e'];rfl
theorem K9:RI []:=⟨List.Pairwise.nil,by simp,λx=>by simp [kM,Cg]⟩
theorem RR {l:O aa} (hv:∀ r,r∈l->da r=0):(eP [] l).1=[]/\(eP [] l).2=l↔RI l:=by
 constructor
 ·rintro ⟨_,h2⟩;have:=EA K9 hv
  rwa [h2] at this
 ·intro h;rw[Nk h l [] rfl];exact ⟨rfl,rfl⟩
instance:DecidableEq aa:=λa b=>decidable_of_iff _ (aa.eq_iff a b)
theorem JH:∀ (now l:O aa),(eP now l).2.length<=now.length+l.length
 | now,[]=>by simp [eP]
 | now,r::l=>by
  have h1:=AD now r;have h2:=JH (iN now r).2 l;simp only[eP,zad];omega
theorem Wo (a b:O aa) (hl:a.length<=100000):rz a b=some (decide (a=b)):=by
 unfold rz;by_cases he:a.length=b.length
 ·rw[zaa (by simp [he])];refine (bm a (λs:Int=>s) (λs t=>some (decide (t=b.drop s.toNat))) (λs t=>t.length=(b.drop s.toNat).length) (by omega) ?_ ?_ (s:=0) rfl (by simpa using he)).trans (by simp)
  ·intro i hh hi;unfold qx;rw[zaa (by simp only[zak];omega)];refine ⟨_,rfl,?_⟩;have:b.drop i.toNat=[]:=by
    apply zba;rw[←hh];rfl
   rw[this];simp
  ·intro i r t hh ia fz hx hlen;unfold qx;rw[zab (by simpa using fz),af ⟨ia,fz⟩,af (by omega),hx,oh (l:=b) (k:=i.toNat) (by omega)];by_cases hq:r=nth b i.toNat
   ·rw[zaa (by rw[(aa.eq_iff _ _).2 hq];simp),af (by omega)];refine .inr ⟨_,rfl,?_,rfl,?_⟩
    ·rw[show (i+1).toNat=i.toNat+1 from by omega,zbh];omega
    ·rw[show (i+1).toNat=i.toNat+1 from by omega];congr 1;rw[zbl,zbs,zbs];simp [hq]
   ·have:et r.bM (nth b i.toNat).bM=false:=by
     cases h:et r.bM (nth b i.toNat).bM with
     | false=>rfl
     | true=>exact absurd ((aa.eq_iff _ _).1 h) hq
    rw[zab (by rw[this];rfl)];refine .inl ⟨_,rfl,?_⟩;congr 1;rw[zct];intro h;exact hq (List.cons.inj h).1
 ·rw[zab (by simpa using λh=>he (by omega))];congr 1
  symm
  rw[zct];intro h;exact he (by rw[h])
def XA (l:List Range):List aa->List aa->Bool
 | _,[]=>true
 | d,r::t=>(okB r && !(d.any λx=>z7 x r) && (hasB l r.source r.aF && Ds r.source r.aF)) && XA l (d++[r]) t
theorem Ub (l:O Range):∀ (t d:O aa),XA l d t=(t.all okB && T5 l d t)
 | [],d=>rfl
 | r::t,d=>by
  simp only[XA,T5,zet,Ub l t];generalize okB r=b1;generalize (d.any λx=>z7 x r)=b2;generalize (hasB l r.source r.aF && Ds r.source r.aF)=b3;generalize t.all okB=b4;generalize T5 l (d++[r]) t=b5;revert b1 b2 b3 b4 b5;decide
def Wp (m:O (bt×Bool)) (l:O aa):Prop:=∀ s n,(aC m (⟨s,n⟩:bt)).getD false=l.any λx=>decide (x.source=s) && decide (x.aF=n)
theorem Wp.step {m:O (bt×Bool)} {l:O aa} (h:Wp m l) (x:aa):Wp (dm m (⟨x.source,x.aF⟩:bt) true) (l++[x]):=λs n=>by
 rw[dV,List.any_append,zcs,zeh,zdh,←h s n];by_cases he:x.source=s/\x.aF=n
 ·rw[zab (by rw[he.1,he.2];simp),zcj,he.1,he.2];simp
 ·rw[zaa (by
   intro e;have:=eq_of_beq e;injection this with e1 e2;exact he ⟨e1.symm,e2.symm⟩)]
  have:(decide (x.source=s) && decide (x.aF=n))=false:=by rw[←Bool.decide_and];exact zda he
  rw[this,zdh]
theorem Uc (v:aG) (m:O (bt×Bool)) (hl:v.open_.length<=1000) (hv:∀ r,r∈v.open_->okB r=true):jR v m=some (FJ none v.open_ && ZV v.open_ v.open_):=by
 unfold jR;have BN:∀ r,r∈v.open_->da r=0:=λr hr=>by
  have:=hv r hr;simp only[okB,zat,zak] at this;exact this.2
 rw[T0 [] v.open_ K9.wt BN (by simpa using hl)];simp only[zac];have hj:=JH [] v.open_;rw[Wo _ _ (by simp at hj;omega),kp];simp only[zac];congr 1;rw[zbl,F6,←RR BN];cases h1:(eP [] v.open_).1 with
 | nil=>simp
 | cons y t=>simp;omega
theorem Wq (v:aG) (hs:SmI v) (hc:Can v.seen):nI v=some (XA v.seen [] v.open_ && (FJ none v.open_ && ZV v.open_ v.open_)):=by
 unfold nI;have hol:=hs.opens;have Q5:=hs.seen;refine (bm v.open_ (λst:Int×O (bt×Bool)=>st.1) (λst t=>some (XA v.seen (v.open_.take st.1.toNat) t && (FJ none v.open_ && ZV v.open_ v.open_))) (λst t=>Wp st.2 (v.open_.take st.1.toNat)/\∀ r,r∈v.open_.take st.1.toNat->okB r=true) (by omega) ?_ ?_ (s:=((0:Int),([]:O (bt×Bool)))) rfl ⟨λs n=>by simp [r9],by simp⟩).trans (by simp)
 ·rintro ⟨i,m⟩ ⟨_,hh⟩ hi;simp only at hh hi ⊢;rw[zbz (by omega)] at hh;unfold po;rw[zaa (by simp only[zak];omega),Uc v m hol hh];exact ⟨_,rfl,by simp [XA]⟩
 ·rintro ⟨i,m⟩ r t ⟨hm,hh⟩ ia fz hx hlen;simp only at hm hh ia fz hx hlen ⊢;have hrm:r∈v.open_:=by rw[←hx];exact kB (by omega)
  unfold po;rw[zab (by simpa using fz),af ⟨ia,fz⟩,hx,Ax r (hs.sm r hrm),kp];simp only[zac];rw[T9 v.seen _ _ hc (by omega),kp,hm];simp only[zac];have e:(((((r.part==0) || ((if (!(r.part==0))=true then da r else default) != 0)) || ((v.open_.take i.toNat).any λx=>decide (x.source=r.source) && decide (x.aF=r.aF))) || (!(if (!(((r.part==0) || ((if (!(r.part==0))=true then da r else default) != 0)) || ((v.open_.take i.toNat).any λx=>decide (x.source=r.source) && decide (x.aF=r.aF))))=true then (hasB v.seen r.source r.aF && Ds r.source r.aF) else default))))=!(okB r && !((v.open_.take i.toNat).any λx=>z7 x r) && (hasB v.seen r.source r.aF && Ds r.source r.aF)):=by
   have e1:((v.open_.take i.toNat).any λx=>z7 x r)=((v.open_.take i.toNat).any λx=>decide (x.source=r.source) && decide (x.aF=r.aF)):=rfl;rw[e1];generalize ((v.open_.take i.toNat).any λx=>decide (x.source=r.source) && decide (x.aF=r.aF))=b2;generalize (hasB v.seen r.source r.aF && Ds r.source r.aF)=b3;unfold okB;by_cases h1:r.part=0
   ·simp [h1]
   ·by_cases h2:da r=0
    ·simp [h1,h2];cases b2 <;> cases b3 <;> simp
    ·simp [h1,h2]
  rw[e];have yZ:v.open_.take (i+1).toNat=v.open_.take i.toNat++[r]:=by rw[show (i+1).toNat=i.toNat+1 from by omega,ta (by omega),hx]
  cases hb:(okB r && !((v.open_.take i.toNat).any λx=>z7 x r) && (hasB v.seen r.source r.aF && Ds r.source r.aF)) with
  | false =>
   rw[zab (by simp)];exact .inl ⟨_,rfl,by simp only[XA,hb,zdg]⟩
  | true =>
   rw[zaa (by simp),af (by omega)];refine .inr ⟨_,rfl,⟨?_,?_⟩,rfl,?_⟩
   ·simp only;rw[yZ];exact hm.step r
   ·simp only;rw[yZ];intro y hy;rcases zbc.1 hy with hy|hy
    ·exact hh y hy
    ·simp at hy;subst hy;simp only[zat] at hb;exact hb.1.1
   ·simp only;rw[yZ];simp only[XA,hb,zcu]
def Vi (hs:List Head):List Range->List Range->Bool
 | _,[]=>true
 | d,r::t=>decide (nN r.source (d++[r])<=yz r.source hs) && Vi hs (d++[r]) t
theorem Dv (s:Int):∀ (a b:O Range),nN s (a++b)=nN s a+nN s b
 | [],b=>by simp [nN]
 | r::a,b=>by simp only[List.cons_append,nN,Dv s a b];omega
theorem Dw (l:O Range) (hs:O Head):∀ (m:Nat) (s:Int),Z3 l hs m s=true↔∀ k:Int,s<=k->k<s+m->nN k l<=yz k hs
 | 0,s=>by simp only[Z3,true_iff];intro k h1 h2;omega
 | m+1,s=>by
  rw[Z3,zat,zbs,Dw l hs m (s+1)];constructor
  ·rintro ⟨h1,h2⟩ k h3 h4;by_cases e:k=s
   ·subst e;exact h1
   ·exact h2 k (by omega) (by omega)
  ·intro h;exact ⟨h s (by omega) (by omega),λk h3 h4=>h k (by omega) (by omega)⟩
theorem Ud (hs:O Head):∀ {t d:O Range},(∀ r,r∈t->qC r)->(∀ s,nN s (d++t)<=yz s hs)->Vi hs d t=true
 | [],d,_,_=>rfl
 | r::t,d,hk,h=>by
  have LG:∀ r,r∈t->qC r:=λx hx=>hk x (zai _ hx)
  have e:(d++[r])++t=d++r::t:=by simp
  rw[Vi,Ud hs LG (by rw[e];exact h),zeu,zbs];have h1:=h r.source;rw[←e,Dv] at h1;have:=(K8 r.source LG).1;omega
theorem Ue (hs:O Head):∀ {t d:O Range},Vi hs d t=true->(∀ s,nN s d<=yz s hs)->∀ s,nN s (d++t)<=yz s hs
 | [],d,_,h,s=>by rw[zbp];exact h s
 | r::t,d,hp,h,s=>by
  rw[Vi,zat,zbs] at hp;have e:(d++[r])++t=d++r::t:=by simp
  rw[←e];refine Ue hs hp.2 (λk=>?_) s;by_cases he:r.source=k
  ·subst he;exact hp.1
  ·rw[Dv];simp only[nN,zaa he];have:=h k;omega
theorem Nl {s:Int} (hs:¬(1<=s/\s<=99)):∀ {l:O Range},(∀ r,r∈l->qC r)->nN s l=0
 | [],_=>rfl
 | r::l,h=>by
  have:=h r (zaj ..);unfold qC at this;rw[nN,zaa (by omega),Nl hs (λx hx=>h x (zai _ hx))];rfl
theorem Wr {l:O Range} {hs:O Head} (hl:∀ r,r∈l->qC r) (hh:∀ h,h∈hs->ED h):Vi hs [] l=Z3 l hs 99 1:=by
 rw[zbl,Dw];constructor
 ·intro h k _ _;have:=Ue hs h (λs=>by rw[nN];exact (F9 s hh).1) k;simpa using this
 ·intro h;refine Ud hs hl (λs=>?_);rw[zbt];by_cases wS:1<=s/\s<=99
  ·exact h s wS.1 (by omega)
  ·rw[Nl wS hl];exact (F9 s hh).1
def Qq (m:O (Int×Int)) (l:O Range):Prop:=∀ s,(aC m s).getD 0=nN s l
theorem Qq.step {m:O (Int×Int)} {l:O Range} (h:Qq m l) (x:Range):Qq (dm m x.source ((aC m x.source).getD 0+((x.kV-x.from_)+1))) (l++[x]):=λs=>by
 rw[dV,Dv];simp only[nN];by_cases he:x.source=s
 ·rw[zab (by simpa using he.symm),zab he,zcj,h x.source,he];omega
 ·rw[zaa (by simpa using λe:s=x.source=>he e.symm),zaa he,h s];omega
theorem p_cnt (v:aG) (m:O (Int×Int)) (hm:Pb m v.aP) (uq:∀ r,r∈v.seen->qC r) (hl:v.seen.length<=1000):loop (λs:Int×O (Int×Int)=>lk v m s.1 s.2) (0,([]:O (Int×Int)))=some (Vi v.aP [] v.seen):=by
 refine (bm v.seen (λst:Int×O (Int×Int)=>st.1) (λst t=>some (Vi v.aP (v.seen.take st.1.toNat) t)) (λst t=>Qq st.2 (v.seen.take st.1.toNat)) (by omega) ?_ ?_ (s:=((0:Int),([]:O (Int×Int)))) rfl (λs=>by simp [r9,nN])).trans (by simp)
 ·rintro ⟨i,e⟩ _ hi;simp only at hi ⊢;unfold lk;rw[zaa (by simp only[zak];omega)];exact ⟨_,rfl,rfl⟩
 ·rintro ⟨i,e⟩ r t he ia fz hx hlen;simp only at he ia fz hx hlen ⊢;have hr:=uq r (by rw[←hx];exact kB (by omega));unfold qC at hr;have hb:=K8 r.source (l:=v.seen.take i.toNat) (λx hx=>uq x (zdy hx));rw[zbb] at hb;have hs:=he r.source;have yZ:v.seen.take (i+1).toNat=v.seen.take i.toNat++[r]:=by rw[show (i+1).toNat=i.toNat+1 from by omega,ta (by omega),hx]
  have mJ:=he.step r;unfold lk;rw[zab (by simpa using fz),af ⟨ia,fz⟩,hx,af (by omega),af (by omega),af (by omega),mJ r.source,hm r.source];by_cases hc:nN r.source (v.seen.take i.toNat++[r])<=yz r.source v.aP
  ·rw[zaa (by simp only[zak];omega),af (by omega)];refine .inr ⟨_,rfl,?_,rfl,?_⟩
   ·simp only;rw[yZ];exact mJ
   ·simp only;rw[yZ];simp only[Vi,zdt hc,zcu]
  ·rw[zab (by simp only[zak];omega)];exact .inl ⟨_,rfl,by simp only[Vi,zda hc,zdg]⟩
theorem p_ck (v:aG) (hs:SmI v):oH v=some (ckF v):=by
 have h16:=hs.aP;have h17:=hs.seen;unfold oH;obtain ⟨hT,hF⟩:=Wm v.aP (by omega);unfold ckF;cases h1:Nb [] v.aP with
 | false =>
  obtain ⟨e1,e2⟩:=hF h1;rw[zaa (by rw[e1];simp),e2];simp [cG]
 | true =>
  obtain ⟨m,e1,hm⟩:=hT h1;have hh:=HP h1;rw[zab (by rw[e1];rfl),e1,Ua v.seen (by omega)];simp only[zac,Bool.not_not,cG,zby];cases h2:zZ none v.seen with
  | false=>simp
  | true =>
   have hc:=(Qo _).1 h2;simp only[zci,zgd,zcm,zby];rw[Wq v hs hc,Ub];simp only[zac];cases h3:(FJ none v.open_ && ZV v.open_ v.open_) with
   | false=>simp
   | true =>
    have ha:v.open_.all okB=true:=by
     have:=(F6 _).1 h3;rw[zbf];intro r hr;have:=this.ok r hr;simp [okB,this.1,this.2]
    rw[ha];cases h5:T5 v.seen [] v.open_ with
    | false=>simp
    | true =>
     simp only[zeu,zci,zgd,zaz,zbw,zcu];rw[p_cnt v m hm hc.ok (by omega),Wr hc.ok hh]
def TL (s n:Int) (r:Range):Prop:=r.source=s/\r.kV+1=n
def TR (s n:Int) (r:Range):Prop:=r.source=s/\r.from_-1=n
instance (s n:Int) (r:Range):Decidable (TL s n r):=by unfold TL;infer_instance
instance (s n:Int) (r:Range):Decidable (TR s n r):=by unfold TR;infer_instance
def dA (s n:Int) (out:List Range) (done:Bool) (f t:Int):List Range->List Range
 | []=>if done=true then out else out++[⟨s,f,t⟩]
 | r::l=>if TL s n r then dA s n out done r.from_ t l
  else if TR s n r then dA s n out done f r.kV l
  else if done=true∨¬PL s n r then dA s n (out++[r]) done f t l
  else dA s n (out++[⟨s,f,t⟩,r]) true f t l
def sK (s n f:Int):List Range->List Range
 | []=>[⟨s,f,n⟩]
 | r::l=>if TR s n r then ⟨s,f,r.kV⟩::l else ⟨s,f,n⟩::r::l
def lV (s n:Int):List Range->List Range
 | []=>[⟨s,n,n⟩]
 | r::l=>if PL s n r then sK s n n (r::l) else if TL s n r then sK s n r.from_ l else r::lV s n l
theorem La {s n f t:Int}:∀ {l out:O Range},(∀ r,r∈l->¬TL s n r/\¬TR s n r)->dA s n out true f t l=out++l
 | [],out,_=>by simp [dA]
 | r::l,out,h=>by
  have hr:=h r (zaj ..);rw[dA,zaa hr.1,zaa hr.2,zab (.inl rfl),La (λx hx=>h x (zai _ hx))];simp
theorem Ws {s n f t:Int} {l out:O Range} (h:∀ r,r∈l->PL s n r/\¬TL s n r/\¬TR s n r):dA s n out false f t l=out++⟨s,f,t⟩::l:=by
 cases l with
 | nil=>simp [dA]
 | cons r l =>
  have hr:=h r (zaj ..);rw[dA,zaa hr.2.1,zaa hr.2.2,zaa (by simp [hr.1]),La (λx hx=>(h x (zai _ hx)).2)];simp
theorem dA_R {s n f:Int} {l out:O Range} (hc:Can l) (h:∀ r,r∈l->PL s n r) (hh:hasB l s n=false):dA s n out false f n l=out++sK s n f l:=by
 cases l with
 | nil=>simp [dA,sK]
 | cons r l =>
  have hr:=h r (zaj ..);have ho:=hc.ok r (zaj ..);have hs:=zav.1 hc.FI;have hn:¬(r.source=s/\r.from_<=n/\n<=r.kV):=by
   have:=zel.1 hh r (zaj ..);simpa using this
  have h1:¬TL s n r:=by unfold TL;unfold PL at hr;omega
  have h2:∀ x,x∈l->PL s n x/\¬TL s n x/\¬TR s n x:=λx hx=>by
   have h3:=hs.1 x hx;have h4:=h x (zai _ hx);have h5:=hc.ok x (zai _ hx);refine ⟨h4,?_,?_⟩
   ·unfold TL;unfold PL at h4;omega
   ·unfold TR;unfold BA at h3;unfold qC at ho;unfold PL at hr;omega
  rw[dA,zaa h1,sK];by_cases h3:TR s n r
  ·rw[zab h3,zab h3,Ws h2]
  ·rw[zaa h3,zaa h3,zaa (by simp [hr]),La (λx hx=>(h2 x hx).2)];simp
theorem Can.tail {r:Range} {l:O Range} (h:Can (r::l)):Can l:=⟨λx hx=>h.ok x (zai _ hx),(zav.1 h.FI).2⟩
theorem xA {r:Range} {l:O Range} {s n:Int} (h:hasB (r::l) s n=false):hasB l s n=false:=by
 unfold hasB at *;rw[zcs,zge] at h;exact h.2
theorem Uf {s n:Int}:∀ {l out:O Range},Can l->hasB l s n=false->dA s n out false n n l=out++lV s n l
 | [],out,_,_=>by simp [dA,lV]
 | r::l,out,hc,hh=>by
  have ho:=hc.ok r (zaj ..);have hs:=zav.1 hc.FI;by_cases hp:PL s n r
  ·rw[lV,zab hp];exact dA_R hc (λx hx=>by
    rcases zan.1 hx with rfl|hx
    ·exact hp
    ·exact Du (hs.1 x hx) (hc.ok x (zai _ hx)) hp) hh
  ·rw[lV,zaa hp,dA];by_cases h1:TL s n r
   ·rw[zab h1,zab h1];exact dA_R hc.tail (λx hx=>by
     have h3:=hs.1 x hx;have h5:=hc.ok x (zai _ hx);unfold TL at h1;unfold BA at h3;unfold qC at h5;unfold PL;omega) (xA hh)
   ·rw[zaa h1,zaa h1,zaa (by unfold TR;unfold PL at hp;unfold qC at ho;omega),zab (.inr hp),Uf hc.tail (xA hh)];simp
theorem Z5 (l:O Range) (s n:Int) (hc:Can l) (hl:l.length<=100000):xj l s n=some (if Ds s n=true/\hasB l s n=false then (lV s n l,true) else ([],false)):=by
 unfold xj;simp only[mC,xz,zac,Bool.not_not];rw[show decide ((1<=s/\s<=99)/\1<=n/\n<=999999999)=Ds s n from rfl,Z2 l s n hl,kp];simp only[zac];cases hi:Ds s n with
 | false=>simp
 | true =>
  cases hh:hasB l s n with
  | true=>simp
  | false =>
   rw[zaa (by simp),zab ⟨rfl,rfl⟩];have hi':=zcv hi;refine (bm l (λst:O Range×Bool×Int×Int×Int=>st.2.2.1) (λst t=>some (dA s n st.1 st.2.1 st.2.2.2.1 st.2.2.2.2 t,true)) (λst t=>st.1.length+2*t.length<=500000/\∀ r,r∈t->qC r) (by omega) ?_ ?_ (s:=(([]:O Range),false,(0:Int),n,n)) rfl ⟨by simp;omega,hc.ok⟩).trans (by simp only;rw[Uf hc hh];simp)
   ·rintro ⟨o,d,i,f,t⟩ ⟨hb,_⟩ hi;simp only at hb hi ⊢;unfold uL rH;rw[zaa (by simp only[zak];omega)];cases d with
    | true=>exact ⟨_,rfl,by simp [dA]⟩
    | false =>
     rw[zab (by rfl),af (by simp;simp at hb;omega)];exact ⟨_,rfl,by simp [dA]⟩
   ·rintro ⟨o,d,i,f,t⟩ r tl ⟨hb,hk⟩ ia fz hx hlen;simp only at hb hk ia fz hx hlen ⊢;simp only[zad] at hb;have hr:=hk r (zaj ..);have LG:∀ x,x∈tl->qC x:=λx hx=>hk x (zai _ hx)
    unfold qC at hr;unfold uL;rw[zab (by simpa using fz),af ⟨ia,fz⟩,hx,af (λ_=>by omega),af (λ_=>by omega)];rw[dA];by_cases h1:TL s n r
    ·have Gp:=h1;unfold TL at Gp;rw[zab (by simp [Gp.1,Gp.2]),zab h1,af (by omega)];exact .inr ⟨_,rfl,⟨by simp only;omega,LG⟩,rfl,rfl⟩
    ·have Gp:=h1;unfold TL at Gp;rw[zaa (by simpa using Gp),zaa h1];by_cases h2:TR s n r
     ·have EM:=h2;unfold TR at EM;rw[zab (by simp [EM.1,EM.2]),zab h2,af (by omega)];exact .inr ⟨_,rfl,⟨by simp only;omega,LG⟩,rfl,rfl⟩
     ·have EM:=h2;unfold TR at EM;rw[zaa (by simpa using EM),zaa h2];by_cases h3:d=true∨¬PL s n r
      ·rw[zab (by
        unfold PL at h3;simp only[zbv,zat,zec,zak];rcases h3 with h3|h3
        ·exact .inl (.inl h3)
        ·omega),zab h3,af (by simp;omega),af (by omega)]
       exact .inr ⟨_,rfl,⟨by simp;omega,LG⟩,rfl,rfl⟩
      ·rw[zaa (by
        unfold PL at h3;simp only[zbv,zat,zec,zak];rintro ((h4|h4)|h4)
        ·exact h3 (.inl h4)
        ·exact h3 (.inr (by omega))
        ·exact h3 (.inr (by omega))),zaa h3,af (by simp;omega),af (by omega)]
       exact .inr ⟨_,rfl,⟨by simp;omega,LG⟩,rfl,rfl⟩
theorem Pd {α:Type} [Inhabited α] {A B:O α} {x:α} {p:Nat} (h:A.length=p):nth (A++x::B) p=x:=by
 subst h;rw[og (by simp)];simp
theorem Qr {α:Type} [Inhabited α] {A B:O α} {x b:α} {p:Nat} (h:A.length=p):nth (A++x::b::B) (p+1)=b:=by
 have:=Pd (A:=A++[x]) (B:=B) (x:=b) (p:=p+1) (by simp [h])
 rwa [zar,zbr] at this
theorem Qs {α:Type} {A B:O α} {x y:α} {p:Nat} (h:A.length=p):(A++x::B).set p y=A++y::B:=by
 subst h;simp
theorem Qt {α:Type} {A B:O α} {x b:α} {p:Nat} (h:A.length=p):(A++x::b::B).take (p+1)++(A++x::b::B).drop (p+2)=A++x::B:=by
 subst h;have e1:(A++x::b::B).take (A.length+1)=A++[x]:=by
  rw[show A++x::b::B=(A++[x])++b::B from by simp,zee (by simp),zbz (by simp)]
 have e2:(A++x::b::B).drop (A.length+2)=B:=by
  rw[show A++x::b::B=(A++[x,b])++B from by simp,show A.length+2=(A++[x,b]).length from by simp,zfg]
 rw[e1,e2];simp
def yA:List Range->Range->List Range->List Range
 | [],x,B=>x::B
 | [a],x,B=>if a.source=x.source/\a.kV+1=x.from_ then ⟨a.source,a.from_,x.kV⟩::B else a::x::B
 | a::b::A,x,B=>a::yA (b::A) x B
theorem JI (x:Range) (B:O Range) (a:Range):∀ (A:O Range),yA (A++[a]) x B=if a.source=x.source/\a.kV+1=x.from_ then A++⟨a.source,a.from_,x.kV⟩::B else A++a::x::B
 | []=>by simp [yA]
 | [c]=>by simp only[zbr,yA];split <;> simp
 | c::d::A=>by
  have:=JI x B a (d::A);simp only[List.cons_append] at this ⊢;rw[yA,this];split <;> simp
theorem Pe (A B:O Range) (x:Range) (p:Int) (hp:(A.length:Int)=p) (hl:A.length+B.length<=500000) (hA:∀ a,a∈A->qC a):gL p (A++x::B)=some (yA A x B):=by
 unfold gL;rcases List.eq_nil_or_concat A with rfl|⟨A',a,rfl⟩
 ·simp only[zas] at hp;have:p=0:=by omega
  subst this;simp [cG,yA,ck]
 ·rw[List.concat_eq_append] at *;have ha:=hA a (by simp);unfold qC at ha;simp only[zah,zad,zas] at hp hl;have hgt:p > 0:=by omega
  have e1:(p-1).toNat=A'.length:=by omega
  have e2:p.toNat=A'.length+1:=by omega
  have e3:(p+1).toNat=A'.length+2:=by omega
  rw[zar,zbr];simp only[hgt,decide_true,cG,zby];rw[af (λ_=>by omega),af (λ_=>by simp;omega),af (λ_=>by simp;omega),af (λ_=>by simp;omega),af (λ_=>by simp;omega),e1,e2,Pd rfl,Qr rfl];unfold nG;rw[af (λ_=>by omega)];simp only[zac,zcu];rw[JI];by_cases h:a.source=x.source/\a.kV+1=x.from_
  ·rw[zab (by simp [h.1,h.2]),zab h,af (by omega),af (by simp;omega),af (by simp),af (by simp;omega),af (by simp),af (by omega),Qs rfl];unfold pZ;rw[af (by simp;omega),e2,e3,Qt rfl];rfl
  ·rw[zaa (by simpa using h),zaa h]
def Nn (s n:Int) (A:List Range):List Range->List Range
 | []=>yA A ⟨s,n,n⟩ []
 | b::B'=>if TR s n b then yA A ⟨s,n,b.kV⟩ B' else yA A ⟨s,n,n⟩ (b::B')
theorem Ug {s n:Int} {A B:O Range} (hA:∀ a,a∈A->¬PL s n a) (hB:∀ b,b∈B->PL s n b) (hs:A.Pairwise BA) (hk:∀ a,a∈A->qC a):lV s n (A++B)=Nn s n A B:=by
 induction A with
 | nil =>
  cases B with
  | nil=>rfl
  | cons b B' =>
   rw[zbt,lV,zab (hB b (zaj ..)),sK];simp only[Nn];split <;> rfl
 | cons a A ih =>
  have h1:=hA a (zaj ..);have ih:=ih (λx hx=>hA x (zai _ hx)) (zav.1 hs).2 (λx hx=>hk x (zai _ hx));rw[List.cons_append,lV,zaa h1];cases A with
  | nil =>
   rw[zbt];by_cases h2:TL s n a
   ·rw[zab h2];have EM:=h2;unfold TL at EM;cases B with
    | nil=>simp [sK,Nn,yA,EM.1,EM.2]
    | cons b B' =>
     simp only[sK,Nn,yA];split <;> simp [EM.1,EM.2]
   ·rw[zaa h2];have EM:¬(a.source=s/\a.kV+1=n):=h2;cases B with
    | nil=>simp [lV,Nn,yA,EM]
    | cons b B' =>
     rw[lV,zab (hB b (zaj ..))];simp only[sK,Nn,yA];split <;> simp [EM]
  | cons c A' =>
   have h3:=(zav.1 hs).1 c (zaj ..);have h4:=hA c (by simp);have h5:=hk c (by simp);rw[zaa (by unfold TL;unfold BA at h3;unfold PL at h4;unfold qC at h5;omega),ih];cases B with
   | nil=>simp only[Nn,yA]
   | cons b B' =>
    simp only[Nn];split <;> simp only[yA]
theorem No (s n:Int):∀ (l:O Range),∀ a,a∈l.take (AI s n l)->¬PL s n a
 | [],a,h=>by simp at h
 | r::l,a,h=>by
  rw[z8] at h;by_cases hp:PL s n r
  ·rw[zab hp] at h;simp at h
  ·rw[zaa hp,List.take_succ_cons] at h;rcases zan.1 h with rfl|h
   ·exact hp
   ·exact No s n l a h
theorem Np {s n:Int}:∀ {l:O Range},Can l->∀ b,b∈l.drop (AI s n l)->PL s n b
 | [],_,b,h=>by simp at h
 | r::l,hc,b,h=>by
  rw[z8] at h;by_cases hp:PL s n r
  ·rw[zab hp,List.drop_zero] at h;rcases zan.1 h with rfl|h
   ·exact hp
   ·exact Du ((zav.1 hc.FI).1 b h) (hc.ok b (zai _ h)) hp
  ·rw[zaa hp,List.drop_succ_cons] at h;exact Np hc.tail b h
theorem Qu (l:O Range) (s n:Int) (hc:Can l) (hl:l.length<=100000):jJ s n l=some (AI s n l:Int):=by
 unfold jJ;have e:∀ i j,lX s n l i j=jO l s n i j:=λi j=>by
  unfold lX jO;have:∀ k,jZ k s n l=kO k l s n:=λk=>by
   unfold jZ kO;by_cases h:(0:Int)<=k/\k<(l.length:Int)
   ·rw[af h,af h,af (by omega)]
   ·unfold ck;rw[zaa h,zaa h]
  simp only[this]
 have:mq (l.length:Int) s n l=lL (l.length:Int) l s n:=by
  unfold mq lL;simp only[e]
 rw[this,HR l s n hc hl];rfl
theorem Z6 (l:O Range) (s n:Int) (hc:Can l) (hl:l.length<=100000):ti s n l=some (hasB l s n && Ds s n):=by
 have hp:=Qu l s n hc hl;have:=T9 l s n hc hl;have hle:=Pc s n l;unfold oA qb at this;rw[HR l s n hc hl] at this;unfold ti;rw[hp];simp only[zac,eh] at this ⊢;rw[af (λh=>by simp at h;omega),af (λh=>by simp at h;omega)] at this;rw[af (λh=>by simp at h;omega),af (λh=>by simp at h;omega),af (λh=>by simp at h;omega),af (λh=>by simp at h;omega)];exact this
theorem RS (A:O Range) (s n:Int) (p:Nat) (hp:jJ s n (A++[])=some (p:Int)) (RT:A.length=p) (hl:A.length<=100000) (XB:∀ a,a∈A->qC a):iV s n (A++[])=some (yA A ⟨s,n,n⟩ []):=by
 unfold iV;rw[hp,zac];unfold sP;rw[zbp,af ⟨by omega,by omega,by simp,by simp;omega⟩,zac,show ((p:Nat):Int).toNat=p from by omega,zbz (by omega),zdf (by omega),zbp];have hf:decide ((p:Int)+1<((A++[(⟨s,n,n⟩:Range)]).length:Int))=false:=by
  rw[zct,zah,zal];omega
 simp only[hf];rw[af (by omega),af (λh=>absurd h zdz),af (λh=>absurd h zdz),af (λh=>absurd h zdz),af (λh=>absurd h zdz),af (λh=>absurd h zdz)];simp only[cG,zaz,zbw,zac,zdg];exact Pe A [] _ _ (by omega) (by rw[zas];omega) XB
theorem Pf (A B':O Range) (b:Range) (s n:Int) (p:Nat) (hp:jJ s n (A++b::B')=some (p:Int)) (RT:A.length=p) (hl:A.length+B'.length<=100000) (XB:∀ a,a∈A->qC a) (hb:qC b) (hn:0<=n/\n<=999999999):iV s n (A++b::B')=some (if TR s n b then yA A ⟨s,n,b.kV⟩ B' else yA A ⟨s,n,n⟩ (b::B')):=by
 unfold iV;rw[hp,zac];unfold sP;have e3:((p:Int)+1).toNat=p+1:=by omega
 have e4:((p:Int)+2).toNat=p+2:=by omega
 have hlen:(A++b::B').length=p+(B'.length+1):=by rw[zah,zad,RT]
 rw[af ⟨by omega,by omega,by simp,by rw[hlen,zal];omega⟩,zac,show ((p:Nat):Int).toNat=p from by omega,zee (by omega),zbz (by omega),show List.drop p (A++b::B')=b::B' from by rw[←RT,zfg],zar,zbr];unfold qC at hb;have Dx:(A++(⟨s,n,n⟩:Range)::b::B').length=p+(B'.length+2):=by rw[zah,zad,zad,RT]
 have ht:decide ((p:Int)+1<((A++(⟨s,n,n⟩:Range)::b::B').length:Int))=true:=by rw[zbs,Dx];omega
 simp only[ht];rw[af (by omega),af (λ_=>by rw[Dx];omega),af (λ_=>by rw[Dx];omega),af (λ_=>by omega),af (λ_=>by rw[Dx];omega),af (λ_=>by rw[Dx];omega),e3,Pd RT,Qr RT];unfold nG;rw[af (λ_=>by simp only;omega)];simp only[cG,zby,zac,zcu];by_cases h:TR s n b
 ·have h':=h;unfold TR at h';rw[zab (by simp;omega),zab h,af (by omega),af (by rw[Dx];omega),af (by rw[Dx];omega),af (by rw[Dx];omega),af (by rw[Dx];omega),af (by omega),af (by omega),Qs RT];unfold pZ;have hlen3:(A++(⟨s,n,b.kV⟩:Range)::b::B').length=p+(B'.length+2):=by rw[zah,zad,zad,RT]
  rw[af (by rw[hlen3];omega),e3,e4,Qt RT];simp only[zac];exact Pe A B' _ _ (by omega) (by omega) XB
 ·have h':=h;unfold TR at h';rw[zaa (by simp;omega),zaa h];exact Pe A (b::B') _ _ (by omega) (by rw[zad];omega) XB
theorem Uh (l:O Range) (s n:Int) (hc:Can l) (hn:0<=n/\n<=999999999) (hl:l.length<=100000):iV s n l=some (lV s n l):=by
 have hp:=Qu l s n hc hl;have hle:=Pc s n l;have hA:=No s n l;have hB:=Np (s:=s) (n:=n) hc;have RT:(l.take (AI s n l)).length=AI s n l:=by rw[zbb];omega
 have hlB:(l.drop (AI s n l)).length=l.length-AI s n l:=by rw[zbh]
 have XB:∀ a,a∈l.take (AI s n l)->qC a:=λa ha=>hc.ok a (zdy ha)
 have hkB:∀ b,b∈l.drop (AI s n l)->qC b:=λb hb=>hc.ok b (zdd hb)
 have key:=Ug hA hB (hc.FI.sublist (List.take_sublist _ _)) XB;have e:=zfe (AI s n l) l;cases hBc:l.drop (AI s n l) with
 | nil =>
  rw[hBc] at key e;have:=RS (l.take (AI s n l)) s n (AI s n l) (by rw[e];exact hp) RT (by omega) XB;rw[e] at this key;rw[this,key];rfl
 | cons b B' =>
  rw[hBc] at key e hlB;rw[zad] at hlB;have:=Pf (l.take (AI s n l)) B' b s n (AI s n l) (by rw[e];exact hp) RT (by omega) XB (hkB b (by rw[hBc];exact zaj ..)) hn;rw[e] at this key;rw[this,key];rfl
def FL (src:Int):List aa->Int
 | []=>0
 | r::l=>if da r=0 then (if r.source=src then FL src l else 8) else da r
def Oc (s n f:Int):Int:=if (s<1∨99<s)∨(n<1∨999999999<n) then 6 else if f<1∨3<f then 7 else 0
def A4 (b:Batch):Int:=if Oc b.source b.number b.format=0 then (if 4096<b.records.length then 5 else FL b.source b.records) else Oc b.source b.number b.format
def Z7 (l:O aa):Prop:=∀ r,r∈l->r.a.length<1000000000/\r.b.length<1000000000
theorem Z7.nth {l:O aa} (h:Z7 l) {k:Nat} (hk:k<l.length):(Go.Abs.nth l k).a.length<1000000000/\(Go.Abs.nth l k).b.length<1000000000:=by
 rw[og hk];exact h _ (zfh hk)
theorem Ui (b:Batch) (h:Z7 b.records) (hl:b.records.length<=4096):loop (λs=>iH b s) 0=some (FL b.source b.records):=by
 have:=jM (step:=λs=>iH b s) (λi:Int=>some (FL b.source (b.records.drop i.toNat))) (λi=>0<=i/\i<=(b.records.length:Int)) (λi=>((b.records.length:Int) - i).toNat) (λi hI=>by
  obtain ⟨h0,h1⟩:=hI;show (∃ r,iH b i=_/\_)∨∃ s',iH b i=_/\_;unfold iH;by_cases hi:i<(b.records.length:Int)
  ·have hd:=oh (l:=b.records) (k:=i.toNat) (by omega);have hs:=h.nth (k:=i.toNat) (by omega);rw[zab (by simpa using hi),af ⟨h0,hi⟩,MT _ hs.1 hs.2,hd];generalize Go.Abs.nth b.records i.toNat=r at *;simp only[zac,FL];by_cases he:da r=0
   ·rw[zaa (by simp [he]),zab he];by_cases wX:r.source=b.source
    ·rw[zaa (by simp [wX]),zab wX,af (by omega)];refine .inr ⟨i+1,rfl,⟨by omega,by omega⟩,by omega,?_⟩;rw[show (i+1).toNat=i.toNat+1 from by omega]
    ·rw[zab (by simpa using wX),zaa wX];exact .inl ⟨_,rfl,rfl⟩
   ·rw[zab (by simpa using he),zaa he];exact .inl ⟨_,rfl,rfl⟩
  ·rw[zaa (by simpa using hi),zdf (by omega)];exact .inl ⟨_,rfl,rfl⟩) (s:=0) ⟨by omega,by omega⟩ (by omega)
 simpa using this
theorem RU (b:Batch) (h:Z7 b.records) (hl:b.records.length<=4096):loop (λs=>km b s) 0=some (FL b.source b.records):=by
 have:=jM (step:=λs=>km b s) (λi:Int=>some (FL b.source (b.records.drop i.toNat))) (λi=>0<=i/\i<=(b.records.length:Int)) (λi=>((b.records.length:Int) - i).toNat) (λi hI=>by
  obtain ⟨h0,h1⟩:=hI;show (∃ r,km b i=_/\_)∨∃ s',km b i=_/\_;unfold km;by_cases hi:i<(b.records.length:Int)
  ·have hd:=oh (l:=b.records) (k:=i.toNat) (by omega);have hs:=h.nth (k:=i.toNat) (by omega);rw[zab (by simpa using hi),af ⟨h0,hi⟩,MQ _ hs.1 hs.2,hd];generalize Go.Abs.nth b.records i.toNat=r at *;simp only[zac,FL];by_cases he:da r=0
   ·rw[zaa (by simp [he]),zab he,af ⟨h0,hi⟩];by_cases wX:r.source=b.source
    ·rw[zaa (by simp [wX]),zab wX,af (by omega)];refine .inr ⟨i+1,rfl,⟨by omega,by omega⟩,by omega,?_⟩;rw[show (i+1).toNat=i.toNat+1 from by omega]
    ·rw[zab (by simpa using wX),zaa wX];exact .inl ⟨_,rfl,rfl⟩
   ·rw[zab (by simpa using he),zaa he];exact .inl ⟨_,rfl,rfl⟩
  ·rw[zaa (by simpa using hi),zdf (by omega)];exact .inl ⟨_,rfl,rfl⟩) (s:=0) ⟨by omega,by omega⟩ (by omega)
 simpa using this
theorem Z8 (h:Head):kX h=some (if Oc h.source h.number h.format=0 then (if h.count<0∨4096<h.count then 5 else 0) else Oc h.source h.number h.format):=by
 unfold kX;simp only[jY,zac,kp];by_cases h1:(h.source<1∨99<h.source)∨(h.number<1∨999999999<h.number)
 ·have e:Oc h.source h.number h.format=6:=zab h1;rw[e];show _=some (6:Int);by_cases hs:h.source<1∨99<h.source
  ·rw[zab (by simp;omega)]
  ·have hn:h.number<1∨999999999<h.number:=by omega
   rw[zab (by simp;omega)]
 ·by_cases h2:h.format<1∨3<h.format
  ·have e:Oc h.source h.number h.format=7:=by unfold Oc;rw[zaa h1,zab h2]
   rw[e];show _=some (7:Int);rw[zaa (by simp;omega),zab (by simp;omega)]
  ·have e:Oc h.source h.number h.format=0:=by unfold Oc;rw[zaa h1,zaa h2]
   rw[e];show _=some (if h.count<0∨4096<h.count then 5 else 0);rw[zaa (by simp;omega),zaa (by simp;omega)];by_cases h3:h.count<0∨4096<h.count
   ·rw[zab h3,zab (by simp;omega)]
   ·rw[zaa h3,zaa (by simp;omega)]
theorem Wu (s n f:Int):vm s n f=some (Oc s n f):=by
 unfold vm Oc;by_cases h1:(s<1∨99<s)∨(n<1∨999999999<n)
 ·rw[zab h1,zab (by simp;omega)]
 ·rw[zaa h1,zaa (by simp;omega)];by_cases h2:f<1∨3<f
  ·rw[zab h2,zab (by simp;omega)]
  ·rw[zaa h2,zaa (by simp;omega)]
theorem Z9 (b:Batch) (h:Z7 b.records):qa b=some (A4 b):=by
 unfold qa rm A4;simp only[zac,Z8];by_cases h1:Oc b.source b.number b.format=0
 ·simp only[h1,zby];by_cases h2:4096<b.records.length
  ·have EM:(b.records.length:Int)<0∨4096<(b.records.length:Int):=by omega
   rw[zab EM,zab h2];rfl
  ·have EM:¬ ((b.records.length:Int)<0∨4096<(b.records.length:Int)):=by omega
   rw[zaa EM,zaa h2];exact Ui b h (by omega)
 ·simp only[zaa h1];rw[zab (by simpa using h1)]
theorem Wv (b:Batch) (h:Z7 b.records):tv b=some (A4 b):=by
 unfold tv A4;simp only[zac,Wu];by_cases h1:Oc b.source b.number b.format=0
 ·rw[zaa (by simp [h1]),zab h1];by_cases h2:4096<b.records.length
  ·rw[zab (by simp;omega),zab h2]
  ·rw[zaa (by simp;omega),zaa h2];exact RU b h (by omega)
 ·rw[zab (by simpa using h1),zaa h1]
theorem Qv {s:Int}:∀ {l:O aa},FL s l=0->∀ r,r∈l->da r=0
 | [],_,r,h=>by cases h
 | x::l,hc,r,h=>by
  rw[FL] at hc;by_cases he:da x=0
  ·rw[zab he] at hc;by_cases hs:x.source=s
   ·rw[zab hs] at hc;rcases zan.1 h with rfl|h
    ·exact he
    ·exact Qv hc r h
   ·rw[zaa hs] at hc;omega
  ·rw[zaa he] at hc;exact absurd hc he
theorem Dy {b:Batch} (h:A4 b=0):(1<=b.source/\b.source<=99)/\(1<=b.number/\b.number<=999999999)/\(1<=b.format/\b.format<=3)/\b.records.length<=4096/\∀ r,r∈b.records->da r=0:=by
 unfold A4 at h;by_cases h1:Oc b.source b.number b.format=0
 ·rw[zab h1] at h;by_cases h2:4096<b.records.length
  ·rw[zab h2] at h;omega
  ·rw[zaa h2] at h;unfold Oc at h1;by_cases h3:(b.source<1∨99<b.source)∨(b.number<1∨999999999<b.number)
   ·rw[zab h3] at h1;omega
   ·rw[zaa h3] at h1;by_cases h4:b.format<1∨3<b.format
    ·rw[zab h4] at h1;omega
    ·exact ⟨by omega,by omega,by omega,by omega,Qv h⟩
 ·rw[zaa h1] at h;exact absurd h h1
theorem HT {r:aa} (h:da r=0):Ds r.source r.aF=true:=by
 have g:=nJ h;have h1:=g.source;have h2:=g.aF;unfold Ds;rw[zbs];exact ⟨by omega,by omega⟩
theorem HU {s n f:Int} {l:O Range} (hc:Can l) (hi:Ds s n=true) (hf:1<=f/\f<=n) (h:∀ r,r∈l->PL s n r) (hh:hasB l s n=false):Can (sK s n f l)/\∀ p,qC p->(BA p ⟨s,f,n⟩)->(∀ r,r∈l->BA p r)->∀ x,x∈sK s n f l->BA p x:=by
 have hi':=zcv hi;cases l with
 | nil =>
  refine ⟨⟨λx hx=>?_,by simp [sK]⟩,λp hp h1 h2 x hx=>?_⟩
  ·simp [sK] at hx;subst hx;unfold qC;simp only;omega
  ·simp [sK] at hx;subst hx;exact h1
 | cons r l =>
  have hr:=h r (zaj ..);have ho:=hc.ok r (zaj ..);have hs:=zav.1 hc.FI;have hn:¬(r.source=s/\r.from_<=n/\n<=r.kV):=by
   have:=zel.1 hh r (zaj ..);simpa using this
  rw[sK];by_cases h3:TR s n r
  ·rw[zab h3];unfold TR at h3;have oc:=ho;unfold qC at oc;refine ⟨⟨λx hx=>?_,zav.2 ⟨λx hx=>?_,hs.2⟩⟩,λp hp h1 h2 x hx=>?_⟩
   ·rcases zan.1 hx with rfl|hx
    ·unfold qC;simp only;omega
    ·exact hc.ok x (zai _ hx)
   ·have:=hs.1 x hx;unfold BA at this ⊢;simp only;omega
   ·rcases zan.1 hx with rfl|hx
    ·unfold BA at h1 ⊢;simp only at h1 ⊢;omega
    ·exact h2 x (zai _ hx)
  ·rw[zaa h3];unfold TR at h3;have oc:=ho;unfold qC at oc;have cT:BA ⟨s,f,n⟩ r:=by
    unfold BA;unfold PL at hr;simp only;omega
   refine ⟨⟨λx hx=>?_,zav.2 ⟨λx hx=>?_,hc.FI⟩⟩,λp hp h1 h2 x hx=>?_⟩
   ·rcases zan.1 hx with rfl|hx
    ·unfold qC;simp only;omega
    ·exact hc.ok x hx
   ·rcases zan.1 hx with rfl|hx
    ·exact cT
    ·have:=hs.1 x hx;unfold BA at this cT ⊢;simp only at cT ⊢;omega
   ·rcases zan.1 hx with rfl|hx
    ·exact h1
    ·exact h2 x hx
theorem Dz {s n:Int} (hi:Ds s n=true):∀ {l:O Range},Can l->hasB l s n=false->Can (lV s n l)/\∀ p,qC p->BA p ⟨s,n,n⟩->(∀ r,r∈l->BA p r)->∀ x,x∈lV s n l->BA p x
 | [],hc,hh=>HU hc hi (by have:=zcv hi;omega) (by simp) hh
 | r::l,hc,hh=>by
  have hi':=zcv hi;have ho:=hc.ok r (zaj ..);have hs:=zav.1 hc.FI;have oc:=ho;unfold qC at oc;by_cases hp:PL s n r
  ·rw[lV,zab hp];exact HU hc hi (by omega) (λx hx=>by
    rcases zan.1 hx with rfl|hx
    ·exact hp
    ·exact Du (hs.1 x hx) (hc.ok x (zai _ hx)) hp) hh
  ·rw[lV,zaa hp];by_cases h1:TL s n r
   ·rw[zab h1];have Gp:=h1;unfold TL at Gp;have:=HU (f:=r.from_) hc.tail hi (by omega) (λx hx=>by
     have h3:=hs.1 x hx;have h5:=hc.ok x (zai _ hx);unfold BA at h3;unfold qC at h5;unfold PL;omega) (xA hh)
    refine ⟨this.1,λp hq h2 h3 x hx=>this.2 p hq ?_ (λy hy=>h3 y (zai _ hy)) x hx⟩;have:=h3 r (zaj ..);unfold BA at this ⊢;simp only;omega
   ·rw[zaa h1];unfold TL at h1;unfold PL at hp;obtain ⟨k1,k2⟩:=Dz hi hc.tail (xA hh);refine ⟨⟨λx hx=>?_,zav.2 ⟨k2 r ho ?_ hs.1,k1.FI⟩⟩,λp hq h2 h3 x hx=>?_⟩
    ·rcases zan.1 hx with rfl|hx
     ·exact ho
     ·exact k1.ok x hx
    ·unfold BA;simp only;omega
    ·rcases zan.1 hx with rfl|hx
     ·exact h3 x (zaj ..)
     ·exact k2 p hq h2 (λy hy=>h3 y (zai _ hy)) x hx
theorem Nq (s n f:Int) (l:O Range):(sK s n f l).length<=l.length+1:=by
 cases l with
 | nil=>simp [sK]
 | cons r l=>rw[sK];split <;> simp
theorem DA (s n:Int):∀ (l:O Range),(lV s n l).length<=l.length+1
 | []=>by simp [lV]
 | r::l=>by
  have h1:=Nq s n n (r::l);have h2:=Nq s n r.from_ l;have h3:=DA s n l;rw[lV];split
  ·exact h1
  ·split
   ·simp only[zad];omega
   ·simp only[zad];omega
abbrev Tri:=O Range×O aa×O ai
def JJ (w:bU) (r:aa):Prop:=¬(r.start<w.eJ∨r.start > w.jl)
instance (w:bU) (r:aa):Decidable (JJ w r):=by unfold JJ;infer_instance
def Uj (r:aa) (i e:Int):ai:=⟨r.source,r.aF,i,e⟩
def dP (w:bU):List Range->Int->List aa->Tri
  | l,i,[]=>(l,[],[])
  | l,i,r::t =>
    if JJ w r then
      (if hasB l r.source r.aF=false then ((dP w (lV r.source r.aF l) (i+1) t).1,r::(dP w (lV r.source r.aF l) (i+1) t).2.1,(dP w (lV r.source r.aF l) (i+1) t).2.2)
       else ((dP w l (i+1) t).1,(dP w l (i+1) t).2.1,Uj r i 13::(dP w l (i+1) t).2.2))
    else ((dP w l (i+1) t).1,(dP w l (i+1) t).2.1,Uj r i 15::(dP w l (i+1) t).2.2)
def gP:List Range->List (Int×aa)->Tri
 | l,[]=>(l,[],[])
 | l,p::t =>
  if hasB l p.2.source p.2.aF=false then ((gP (lV p.2.source p.2.aF l) t).1,p.2::(gP (lV p.2.source p.2.aF l) t).2.1,(gP (lV p.2.source p.2.aF l) t).2.2)
  else ((gP l t).1,(gP l t).2.1,Uj p.2 p.1 13::(gP l t).2.2)
def pW (w:bU):Int->List aa->List (Int×aa)
 | i,[]=>[]
 | i,r::t=>if JJ w r then (i,r)::pW w (i+1) t else pW w (i+1) t
def nW (w:bU):Int->List aa->List ai
 | i,[]=>[]
 | i,r::t=>if JJ w r then nW w (i+1) t else Uj r i 15::nW w (i+1) t
def Od:Int->List aa->List (Int×aa)
 | i,[]=>[]
 | i,r::t=>(i,r)::Od (i+1) t
theorem JK (w:bU):∀ (t:O aa) (l:O Range) (i:Int),(dP w l i t).1=(gP l (pW w i t)).1/\(dP w l i t).2.1=(gP l (pW w i t)).2.1/\(dP w l i t).2.2.Perm (nW w i t++(gP l (pW w i t)).2.2)
 | [],l,i=>⟨rfl,rfl,zgi _⟩
 | r::t,l,i=>by
  by_cases h:JJ w r
  ·by_cases hh:hasB l r.source r.aF=false
   ·obtain ⟨a,b,c⟩:=JK w t (lV r.source r.aF l) (i+1);simp only[dP,pW,nW,gP,zab h,zab hh];exact ⟨a,by rw[b],c⟩
   ·obtain ⟨a,b,c⟩:=JK w t l (i+1);simp only[dP,pW,nW,gP,zab h,zaa hh];exact ⟨a,b,(c.cons _).trans zfk.symm⟩
  ·obtain ⟨a,b,c⟩:=JK w t l (i+1);simp only[dP,pW,nW,zaa h];exact ⟨a,b,c.cons _⟩
theorem Lb (w:bU):∀ (t:O aa) (l:O Range) (i:Int),(∀ x,x∈(dP w l i t).2.2->i<=x.index)/\(dP w l i t).2.2.Pairwise (λa b=>a.index<b.index)
 | [],l,i=>⟨λx hx=>by simp [dP] at hx,by simp [dP]⟩
 | r::t,l,i=>by
  by_cases h:JJ w r
  ·by_cases hh:hasB l r.source r.aF=false
   ·obtain ⟨a,b⟩:=Lb w t (lV r.source r.aF l) (i+1);simp only[dP,zab h,zab hh];exact ⟨λx hx=>by have:=a x hx;omega,b⟩
   ·obtain ⟨a,b⟩:=Lb w t l (i+1);simp only[dP,zab h,zaa hh];refine ⟨λx hx=>?_,zav.2 ⟨λx hx=>?_,b⟩⟩
    ·rcases zan.1 hx with rfl|hx
     ·exact zey _
     ·have:=a x hx;omega
    ·have:=a x hx;simp only[Uj];omega
  ·obtain ⟨a,b⟩:=Lb w t l (i+1);simp only[dP,zaa h];refine ⟨λx hx=>?_,zav.2 ⟨λx hx=>?_,b⟩⟩
   ·rcases zan.1 hx with rfl|hx
    ·exact zey _
    ·have:=a x hx;omega
   ·have:=a x hx;simp only[Uj];omega
theorem Lc (x:ai):∀ (l:O ai),(Fs x l).Perm (x::l)
 | []=>zgi _
 | y::l=>by
  rw[Fs];split
  ·exact zgi _
  ·exact ((Lc x l).cons y).trans (List.Perm.swap x y l)
theorem Nr:∀ (l:O ai),(Jp l).Perm l
 | []=>zgi _
 | x::l=>(Lc x _).trans ((Nr l).cons x)
theorem Qw (x:ai):∀ {l:O ai},l.Pairwise (λa b=>a.index<=b.index)->(Fs x l).Pairwise (λa b=>a.index<=b.index)
 | [],_=>by simp [Fs]
 | y::l,h=>by
  have h':=zav.1 h;rw[Fs];by_cases OH:x.index<=y.index
  ·rw[zab OH];refine zav.2 ⟨λz hz=>?_,h⟩;rcases zan.1 hz with rfl|hz
   ·exact OH
   ·have:=h'.1 z hz;omega
  ·rw[zaa OH];refine zav.2 ⟨λz hz=>?_,Qw x h'.2⟩;rcases zan.1 ((Lc x l).mem_iff.1 hz) with rfl|hz
   ·omega
   ·exact h'.1 z hz
theorem Ns:∀ (l:O ai),(Jp l).Pairwise (λa b=>a.index<=b.index)
 | []=>List.Pairwise.nil
 | x::l=>Qw x (Ns l)
theorem Nt:∀ {l l':O ai},l.Pairwise (λa b=>a.index<=b.index)->l'.Pairwise (λa b=>a.index<b.index)->l.Perm l'->l=l'
 | [],l',_,_,p=>by rw[List.Perm.nil_eq p]
 | a::l,[],_,_,p=>by have:=p.length_eq;simp at this
 | a::l,b::l',h,h',p=>by
  have h1:=zav.1 h;have h2:=zav.1 h';have e:a=b:=by
   rcases zan.1 (p.mem_iff.1 (zaj ..)) with e|ha
   ·exact e
   ·rcases zan.1 (p.mem_iff.2 (zaj ..)) with e|hb
    ·exact e.symm
    ·have:=h1.1 b hb;have:=h2.1 a ha;omega
  subst e;rw[Nt h1.2 h2.2 p.cons_inv]
theorem aaa {l d:O ai} (hd:d.Pairwise (λa b=>a.index<b.index)) (p:d.Perm l) (hl:l.length<=100000):ux l=some d:=by
 unfold ux;have hn:(l.map (·.index)).Nodup:=by
  refine (p.map (·.index)).nodup_iff.1 ?_
  rw[List.Nodup,List.pairwise_map];exact hd.imp (λh=>by omega)
 rw[af ⟨by omega,hn⟩,Nt (Ns l) hd ((Nr l).trans p.symm)]
theorem Pg (f:Int->Int):∀ (ps:O (Int×aa)) (l:O Range),gP l (ps.map λp=>(f p.1,p.2))=((gP l ps).1,(gP l ps).2.1,(gP l ps).2.2.map λx=>⟨x.source,x.aF,f x.index,x.err⟩)
 | [],l=>rfl
 | p::t,l=>by
  simp only[zao,gP];by_cases hh:hasB l p.2.source p.2.aF=false
  ·simp only[zab hh,Pg f t]
  ·simp only[zaa hh,Pg f t,zao,Uj]
theorem Uk (full:O Int):∀ (ps:O (Int×aa)) (k:Int),0<=k->(∀ j,j<ps.length->nth full (k.toNat+j)=nth (ps.map (·.1)) j)->(Od k (ps.map (·.2))).map (λp=>(nth full p.1.toNat,p.2))=ps
 | [],k,_,_=>rfl
 | p::ps,k,h0,h=>by
  have h1:=h 0 (by simp);rw[zdp,zao,fX] at h1;simp only[zao,Od,h1];congr 1;exact Uk full ps (k+1) (by omega) (λj hj=>by
   have:=h (j+1) (by simpa using hj);rw[zao,fx] at this;rw[←this];congr 1;omega)
theorem Ph {lo hi:Int}:∀ {ps:O (Int×aa)} {l:O Range},(∀ p,p∈ps->lo<=p.1/\p.1<hi)->∀ x,x∈(gP l ps).2.2->lo<=x.index/\x.index<hi
 | [],l,_,x,hx=>by simp [gP] at hx
 | p::t,l,h,x,hx=>by
  have h':=λq hq=>h q (zai _ hq)
  rw[gP] at hx;by_cases hh:hasB l p.2.source p.2.aF=false
  ·rw[zab hh] at hx;exact Ph h' x hx
  ·rw[zaa hh] at hx;rcases zan.1 hx with rfl|hx
   ·exact h p (zaj ..)
   ·exact Ph h' x hx
theorem Ul:∀ (t:O aa) (i:Int) (p:Int×aa),p∈Od i t->i<=p.1/\p.1<i+t.length
 | [],i,p,h=>by simp [Od] at h
 | r::t,i,p,h=>by
  rcases zan.1 h with rfl|h
  ·simp only[zad];omega
  ·have:=Ul t (i+1) p h;simp only[zad];omega
theorem Ld:∀ (ps:O (Int×aa)) (l:O Range),(gP l ps).2.1.length+(gP l ps).2.2.length=ps.length/\(gP l ps).1.length<=l.length+ps.length
 | [],l=>by simp [gP]
 | p::t,l=>by
  rw[gP];by_cases hh:hasB l p.2.source p.2.aF=false
  ·have:=Ld t (lV p.2.source p.2.aF l);have h2:=DA p.2.source p.2.aF l;rw[zab hh];simp only[zad];omega
  ·have:=Ld t l;rw[zaa hh];simp only[zad];omega
theorem Pj (w:bU):∀ (t:O aa) (i:Int),(pW w i t).length+(nW w i t).length=t.length
 | [],i=>rfl
 | r::t,i=>by
  have:=Pj w t (i+1);rw[pW,nW];by_cases h:JJ w r
  ·rw[zab h,zab h];simp only[zad];omega
  ·rw[zaa h,zaa h];simp only[zad];omega
theorem HV (w:bU):∀ (t:O aa) (i:Int) (p:Int×aa),p∈pW w i t->i<=p.1/\p.1<i+t.length/\nth t (p.1-i).toNat=p.2/\p.2∈t
 | [],i,p,h=>by simp [pW] at h
 | r::t,i,p,h=>by
  have key:p∈pW w (i+1) t->i<=p.1/\p.1<i+(r::t).length/\nth (r::t) (p.1-i).toNat=p.2/\p.2∈r::t:=λh=>by
   obtain ⟨a,b,c,d⟩:=HV w t (i+1) p h;refine ⟨by omega,by simp only[zad];omega,?_,zai _ d⟩;rw[show (p.1-i).toNat=(p.1-(i+1)).toNat+1 from by omega,fx];exact c
  rw[pW] at h;by_cases hw:JJ w r
  ·rw[zab hw] at h;rcases zan.1 h with rfl|h
   ·refine ⟨zey _,by simp only[zad];omega,?_,zaj ..⟩;rw[show (i-i).toNat=0 from by omega,fX]
   ·exact key h
  ·rw[zaa hw] at h;exact key h
theorem Pk:∀ {ps:O (Int×aa)} {l:O Range} {r:aa},r∈(gP l ps).2.1->∃ p,p∈ps/\p.2=r
 | [],l,r,h=>by simp [gP] at h
 | p::t,l,r,h=>by
  rw[gP] at h;by_cases hh:hasB l p.2.source p.2.aF=false
  ·rw[zab hh] at h;rcases zan.1 h with rfl|h
   ·exact ⟨p,zaj ..,rfl⟩
   ·obtain ⟨q,h1,h2⟩:=Pk h;exact ⟨q,zai _ h1,h2⟩
  ·rw[zaa hh] at h;obtain ⟨q,h1,h2⟩:=Pk h;exact ⟨q,zai _ h1,h2⟩
theorem yB:∀ (now l:O aa),(eP now l).1.length+(eP now l).2.length<=now.length+l.length
 | now,[]=>by simp [eP]
 | now,r::l=>by
  have h1:=AD now r;have h2:=yB (iN now r).2 l;simp only[eP,zad,zah];omega
theorem XC (r:aa) (w:bU):kZ r w=some (if JJ w r then 0 else 15):=by
 unfold kZ;by_cases h:JJ w r
 ·rw[zab h,zaa (by unfold JJ at h;simpa using h)]
 ·rw[zaa h,zab (by unfold JJ at h;have h':=Decidable.not_not.1 h;simpa using h')]
theorem aab (r:aa) (w:bU):uJ r w=some (if JJ w r then 0 else 15):=XC r w
theorem Um (l:O aa) (w:bU) (hl:l.length<=100000):nr l w=some ((pW w 0 l).map (·.1),nW w 0 l):=by
 unfold nr;refine (bm l (λst:O ai×O Int×Int=>st.2.2) (λst t=>some (st.2.1++(pW w st.2.2 t).map (·.1),st.1++nW w st.2.2 t)) (λst t=>st.1.length+st.2.1.length+t.length<=100000) (by omega) ?_ ?_ (s:=(([]:O ai),([]:O Int),(0:Int))) rfl (by simpa using hl)).trans (by simp)
 ·rintro ⟨y,a,i⟩ _ hi;simp only at hi ⊢;unfold iJ;rw[zaa (by simp only[zak];omega)];exact ⟨_,rfl,by simp [pW,nW]⟩
 ·rintro ⟨y,a,i⟩ r t hb ia fz hx hlen;simp only at hb ia fz hx hlen ⊢;simp only[zad] at hb;unfold iJ;rw[zab (by simpa using fz),af ⟨ia,fz⟩,hx,XC,zac];by_cases h:JJ w r
  ·rw[zab h,zaa (by simp),af (by simp only[zal];omega),af (by omega)];refine .inr ⟨_,rfl,by simp only[zah,zal];omega,rfl,?_⟩;simp only[pW,nW,zab h,zao,zar,zbr]
  ·rw[zaa h,zab (by simp),af (by simp only[zal];omega),af (by omega)];refine .inr ⟨_,rfl,by simp only[zah,zal];omega,rfl,?_⟩;simp only[pW,nW,zaa h,Uj,zar,zbr]
theorem Un (l:O Range) (n9:O aa) (hc:Can l) (hv:∀ r,r∈n9->da r=0) (hl:l.length+n9.length<=50000):oB l n9=some (gP l (Od 0 n9)):=by
 unfold oB gK;rw[af (by omega),zac];refine (bm n9 (λst:O Range×O aa×Int×O ai=>st.2.2.1) (λst t=>some ((gP st.1 (Od st.2.2.1 t)).1,st.2.1++(gP st.1 (Od st.2.2.1 t)).2.1,st.2.2.2++(gP st.1 (Od st.2.2.1 t)).2.2)) (λst t=>Can st.1/\(st.1.length+t.length<=50000/\st.2.1.length+st.2.2.2.length+t.length<=50000)/\∀ r,r∈t->da r=0) (by omega) ?_ ?_ (s:=(l,([]:O aa),(0:Int),([]:O ai))) rfl ⟨hc,⟨hl,by simp only[zas];omega⟩,hv⟩).trans (by simp)
 ·rintro ⟨y,o,i,e⟩ _ hi;simp only at hi ⊢;unfold nT lf;rw[zaa (by simp only[zak];omega)];exact ⟨_,rfl,by simp [gP,Od]⟩
 ·rintro ⟨y,o,i,e⟩ r t ⟨hy,⟨Gq,Gr⟩,ht⟩ ia fz hx hlen;simp only at hy Gq Gr ht ia fz hx hlen ⊢;simp only[zad] at Gq Gr;have hr:=ht r (zaj ..);have hid:=HT hr;have hid':=zcv hid;have tK:∀ x,x∈t->da x=0:=λx hx=>ht x (zai _ hx)
  unfold nT;rw[zab (by simpa using fz),af ⟨ia,fz⟩,hx];simp only[eh,xz,zac];rw[show decide ((1<=r.source/\r.source<=99)/\1<=r.aF/\r.aF<=999999999)=true from hid,zaa (by simp),Z6 y _ _ hy (by omega),zac,hid,zeu];simp only[Od,gP];by_cases hh:hasB y r.source r.aF=false
  ·rw[zaa (by simp [hh]),zab hh,Uh y _ _ hy (by omega) (by omega),zac,af (by simp only[zal];omega),af (by omega)];have:=DA r.source r.aF y;refine .inr ⟨_,rfl,⟨(Dz hid hy hh).1,⟨by simp only;omega,by simp only[zah,zal];omega⟩,tK⟩,rfl,?_⟩;simp only[zar,zbr]
  ·rw[zab (by simpa using hh),zaa hh];unfold mo;rw[af ⟨ia,fz⟩,af ⟨ia,fz⟩,hx,af (by simp only[zal];omega),zac,af (by omega)];refine .inr ⟨_,rfl,⟨hy,⟨by simp only;omega,by simp only[zah,zal];omega⟩,tK⟩,rfl,?_⟩;simp only[Uj,zar,zbr]
def atF (a:O Int) (x:ai):ai:=⟨x.source,x.aF,nth a x.index.toNat,x.err⟩
abbrev Res:=aG×(O aa)×(O ai)×Int
theorem aac (b:Batch) (y3:O Int×O ai) (y4:O Range×O aa×O Head) (y5:Tri) (R:Res) (hidx:∀ x,x∈y5.2.2->0<=x.index/\x.index<(y3.1.length:Int)) (hl:y3.2.length+y5.2.2.length<=100000)
  (hj:gj b y4 y5 (y3.2++y5.2.2.map (atF y3.1))=some R):loop (λs:O ai×Int=>j4 b y3 y4 y5 s.1 s.2) (y3.2,0)=some R:=by
 refine bm y5.2.2 (λst:O ai×Int=>st.2) (λst t=>some R) (λst t=>st.1++t.map (atF y3.1)=y3.2++y5.2.2.map (atF y3.1)/\∀ x,x∈t->0<=x.index/\x.index<(y3.1.length:Int)) (by omega) ?_ ?_ (s:=(y3.2,(0:Int))) rfl ⟨rfl,hidx⟩
 ·rintro ⟨y,i⟩ ⟨hh,_⟩ hi;simp only[zbg,zbp] at hh hi ⊢;unfold j4;rw[zaa (by simp only[zak];omega),hh,hj];exact ⟨_,rfl,rfl⟩
 ·rintro ⟨y,i⟩ x t ⟨hh,hk⟩ ia fz hx hlen;simp only at hh hk ia fz hx hlen ⊢;have Vq:=hk x (zaj ..);have hle:=zbn List.length hh;simp only[zah,zcz,zad] at hle;unfold j4;rw[zab (by simpa using fz),af ⟨ia,fz⟩,hx,af Vq,af (by simp only[zal];omega),af (by omega)];refine .inr ⟨_,rfl,⟨?_,λz hz=>hk z (zai _ hz)⟩,rfl,trivial⟩;rw[←hh];simp only[zao,atF,zar,zbr]
theorem aad (v:aG) (b:Batch) (y3:O Int×O ai) (R:Res) (hat:∀ i,i∈y3.1->0<=i/\i<(b.records.length:Int)) (hl:y3.1.length<=100000)
  (hj:gl v b y3 (y3.1.map λi=>nth b.records i.toNat)=some R):loop (λs:O aa×Int=>j5 v b y3 s.1 s.2) (([]:O aa),0)=some R:=by
 refine bm y3.1 (λst:O aa×Int=>st.2) (λst t=>some R) (λst t=>st.1++t.map (λi=>nth b.records i.toNat)=y3.1.map (λi=>nth b.records i.toNat)/\∀ x,x∈t->0<=x/\x<(b.records.length:Int)) (by omega) ?_ ?_ (s:=(([]:O aa),(0:Int))) rfl ⟨rfl,hat⟩
 ·rintro ⟨y,i⟩ ⟨hh,_⟩ hi;simp only[zbg,zbp] at hh hi ⊢;unfold j5;rw[zaa (by simp only[zak];omega),hh,hj];exact ⟨_,rfl,rfl⟩
 ·rintro ⟨y,i⟩ x t ⟨hh,hk⟩ ia fz hx hlen;simp only at hh hk ia fz hx hlen ⊢;have Vq:=hk x (zaj ..);have hle:=zbn List.length hh;simp only[zah,zcz,zad] at hle;unfold j5;rw[zab (by simpa using fz),af ⟨ia,fz⟩,hx,af Vq,af (by simp only[zal];omega),af (by omega)];refine .inr ⟨_,rfl,⟨?_,λz hz=>hk z (zai _ hz)⟩,rfl,trivial⟩;rw[←hh];simp only[zao,zar,zbr]
def noS:aG:=⟨([]:O Range),([]:O aa),([]:O Head)⟩
def DB (v:aG) (b:Batch) (w:bU):Res:=((⟨(dP w v.seen 0 b.records).1,(eP v.open_ (dP w v.seen 0 b.records).2.1).2,v.aP++[(⟨b.source,b.number,b.format,(b.records.length:Int)⟩:Head)]⟩:aG),(eP v.open_ (dP w v.seen 0 b.records).2.1).1,(dP w v.seen 0 b.records).2.2,0)
def oa (v:aG) (b:Batch) (w:bU):Res:=if A4 b=0 then (if b.number=lA b.source 1 v.aP then DB v b w else (noS,[],[],20)) else (noS,[],[],A4 b)
structure Qx (v:aG) (b:Batch):Prop where
 qW:o7 v
 seen:v.seen.length<=600
 aP:v.aP.length<=600
 opens:v.open_.length<=600
 n9:b.records.length<=100
 sm:∀ r,r∈b.records->Sm r
theorem Qx.sml {v:aG} {b:Batch} (h:Qx v b):Z7 b.records:=λr hr=>by
 have:=h.sm r hr;unfold Sm at this;omega
theorem Qx.okN {v:aG} {b:Batch} (h:Qx v b):∀ x,x∈v.aP->Wi x:=λx hx=>K7 (HP h.qW.aP x hx)
theorem HW {w:bU} {l:O Range} {t:O aa} {i:Int} {r:aa} (h:r∈(dP w l i t).2.1):r∈t:=by
 rw[(JK w t l i).2.1] at h;obtain ⟨p,h1,h2⟩:=Pk h;have:=(HV w t i p h1).2.2.2
 rwa [h2] at this
theorem HX (w:bU) (l:O Range) (t:O aa) (i:Int):(dP w l i t).2.1.length+(dP w l i t).2.2.length<=t.length/\(dP w l i t).1.length<=l.length+t.length:=by
 obtain ⟨a,b,c⟩:=JK w t l i;have h1:=Ld (pW w i t) l;have h2:=Pj w t i;have h3:=c.length_eq;rw[zah] at h3;rw[a,b,h3];omega
theorem p_j1 (v:aG) (b:Batch) (h:Qx v b) (ps:O (Int×aa)) (no:O ai) (T:Tri) (hv:∀ r,r∈ps.map (·.2)->da r=0) (hl:ps.length+no.length<=100) (Vf:T.1=(gP v.seen ps).1) (Vg:T.2.1=(gP v.seen ps).2.1) (hT3:T.2.2.Perm (no++(gP v.seen ps).2.2)) (hsrt:T.2.2.Pairwise (λa b=>a.index<b.index)) (hm:∀ r,r∈T.2.1->da r=0) (hlen:T.2.1.length+T.2.2.length<=100) :
  gl v b (ps.map (·.1),no) (ps.map (·.2))=some ((⟨T.1,(eP v.open_ T.2.1).2,v.aP++[(⟨b.source,b.number,b.format,(b.records.length:Int)⟩:Head)]⟩:aG),(eP v.open_ T.2.1).1,T.2.2,0):=by
 have hs:=h.seen;have hh:=h.aP;have ho:=h.opens;have Fi:=Uk (ps.map (·.1)) ps 0 (by omega) (λj hj=>by rw[show (0:Int).toNat+j=j from by omega])
 have Xd:=Pg (λi=>nth (ps.map (·.1)) i.toNat) (Od 0 (ps.map (·.2))) v.seen
 rw[Fi] at Xd;have hgl:=Ld (Od 0 (ps.map (·.2))) v.seen
 have hel:(Od 0 (ps.map (·.2))).length=ps.length:=by
  have:=zbn List.length Fi
  rwa [zcz] at this
 have hix:∀ x,x∈(gP v.seen (Od 0 (ps.map (·.2)))).2.2->0<=x.index/\x.index<(ps.length:Int):=Ph (λp hp=>by
  have:=Ul _ _ p hp;rw[zcz] at this;omega)
 have hf:=Un v.seen (ps.map (·.2)) h.qW.can hv (by rw[zcz];omega)
 unfold gl qu gK dv kW;rw[af (by omega),af (by omega),af (by omega)];simp only[zac];rw[hf,zac];generalize gP v.seen (Od 0 (ps.map (·.2)))=E at *
 rw[Xd] at Vf Vg hT3;generalize gP v.seen ps=G at *;generalize hat:ps.map (·.1)=at1 at *
 have hal:at1.length=ps.length:=by rw[←hat,zcz]
 have Co:gj b (v.seen,v.open_,v.aP) E (no++E.2.2.map (atF at1))=some ((⟨T.1,(eP v.open_ T.2.1).2,v.aP++[(⟨b.source,b.number,b.format,(b.records.length:Int)⟩:Head)]⟩:aG),(eP v.open_ T.2.1).1,T.2.2,0):=by
  unfold gj;have e3:T.2.2.Perm (no++E.2.2.map (atF at1)):=hT3;rw[aaa hsrt e3 (by rw[←e3.length_eq];omega),zac];simp only at Vf Vg ⊢;rw[←Vf,←Vg,T0 v.open_ _ h.qW.T6.wt hm (by omega),zac,af (by simp only[zal];omega)]
 exact aac b (at1,no) (v.seen,v.open_,v.aP) E _ (λx hx=>by have:=hix x hx;simp only;omega) (by simp only;omega) Co
theorem Uo (v:aG) (b:Batch) (w:bU) (h:Qx v b):nt v b w=some (oa v b w):=by
 have hs:=h.seen;have hh:=h.aP;have ho:=h.opens;have hr:=h.n9;unfold nt oa;rw[Z9 b h.sml,zac];by_cases hc:A4 b=0
 ·obtain ⟨k1,k2,k3,k4,k5⟩:=Dy hc;rw[zaa (by simp [hc]),zab hc,O9 v _ (by omega) h.okN,zac,zab k1];by_cases hn:b.number=lA b.source 1 v.aP
  ·rw[zaa (by simp [hn]),zab hn,Um b.records w (by omega),zac];have PG:=Pj w b.records 0;obtain ⟨d1,d2,d3⟩:=JK w b.records v.seen 0;have zo:=HX w v.seen b.records 0;have hL:((pW w 0 b.records).map (·.1)).map (λi=>nth b.records i.toNat)=(pW w 0 b.records).map (·.2):=by
    rw[List.map_map];refine zgh (λp hp=>?_);have:=(HV w b.records 0 p hp).2.2.1;simpa using this
   have hvL:∀ r,r∈(pW w 0 b.records).map (·.2)->da r=0:=λr hr=>by
    obtain ⟨p,h1,h2⟩:=zcy.1 hr;rw[←h2];exact k5 _ (HV w b.records 0 p h1).2.2.2
   have hat:∀ i,i∈(pW w 0 b.records).map (·.1)->0<=i/\i<(b.records.length:Int):=λi hi=>by
    obtain ⟨p,h1,h2⟩:=zcy.1 hi;have:=HV w b.records 0 p h1;rw[←h2];omega
   have hj:=p_j1 v b h (pW w 0 b.records) (nW w 0 b.records) (dP w v.seen 0 b.records) hvL (by omega) d1 d2 d3 (Lb w b.records v.seen 0).2 (λr hr=>k5 r (HW hr)) (by omega);unfold DB;generalize dP w v.seen 0 b.records=T at *;generalize nW w 0 b.records=no at *;have hll:((pW w 0 b.records).map (·.1)).length<=100000:=by rw[zcz];omega
   generalize (pW w 0 b.records).map (·.1)=at1 at *
   generalize (pW w 0 b.records).map (·.2)=ls at *
   subst hL;exact aad v b (at1,no) _ hat hll hj
  ·rw[zab (by simpa using hn),zaa hn];rfl
 ·rw[zab (by simpa using hc),zaa hc];rfl
theorem RV (v:aG) (b:Batch) (w:bU) (h:Qx v b):rL v b w=some (oa v b w):=by
 have hs:=h.seen;have hh:=h.aP;have ho:=h.opens;have hr:=h.n9;unfold rL oa;rw[Wv b h.sml,zac];by_cases hc:A4 b=0
 ·obtain ⟨k1,k2,k3,k4,k5⟩:=Dy hc;rw[zaa (by simp [hc]),zab hc,Wk v _ (by omega) h.okN,zac,zab k1];by_cases hn:b.number=lA b.source 1 v.aP
  ·rw[zaa (by simp [hn]),zab hn,af (by omega)];refine bm b.records (λst:O Range×O aa×O ai×Int=>st.2.2.2) (λst t=>some (DB v b w)) (λst t=>((dP w st.1 st.2.2.2 t).1=(dP w v.seen 0 b.records).1/\st.2.1++(dP w st.1 st.2.2.2 t).2.1=(dP w v.seen 0 b.records).2.1/\st.2.2.1++(dP w st.1 st.2.2.2 t).2.2=(dP w v.seen 0 b.records).2.2)/\Can st.1/\(st.1.length+t.length<=50000/\st.2.1.length+st.2.2.1.length+t.length<=50000)/\∀ r,r∈t->da r=0) (by omega) ?_ ?_ (s:=(v.seen,([]:O aa),([]:O ai),(0:Int))) rfl ⟨⟨rfl,by simp,by simp⟩,h.qW.can,⟨by simp only;omega,by simp only[zas];omega⟩,k5⟩
   ·rintro ⟨y,f,e,i⟩ ⟨⟨a1,a2,a3⟩,_,_⟩ hi;simp only[dP,zbp] at a1 a2 a3 hi ⊢;unfold qB nA;have zo:=HX w v.seen b.records 0;rw[zaa (by simp only[zak];omega),a1,a2,a3,Wf v.open_ _ h.qW.T6.wt.sm (λr hr=>h.sm r (HW hr)) (by omega),zac,zbt,af (by simp only[zas];omega),af (by simp only[zal];omega)];exact ⟨_,rfl,rfl⟩
   ·rintro ⟨y,f,e,i⟩ r t ⟨⟨a1,a2,a3⟩,hy,⟨Gq,Gr⟩,ht⟩ ia fz hx hlen;simp only at a1 a2 a3 hy Gq Gr ht ia fz hx hlen ⊢;simp only[zad] at Gq Gr;have hid:=HT (ht r (zaj ..));have tK:∀ x,x∈t->da x=0:=λx hx=>ht x (zai _ hx)
    unfold qB;rw[zab (by simpa using fz),af ⟨ia,fz⟩,hx,aab,zac];rw[dP] at a1 a2 a3;by_cases hw:JJ w r
    ·rw[zab hw] at a1 a2 a3 ⊢;rw[zab (by rfl),Z5 y _ _ hy (by omega),zac];by_cases hq:hasB y r.source r.aF=false
     ·rw[zab hq] at a1 a2 a3;rw[zab (show Ds r.source r.aF=true/\hasB y r.source r.aF=false from ⟨hid,hq⟩)];simp only[zby];rw[af (by simp only[zal];omega),af (by omega)];have:=DA r.source r.aF y;refine .inr ⟨_,rfl,⟨⟨a1,?_,a3⟩,(Dz hid hy hq).1,⟨by simp only;omega,by simp only[zah,zal];omega⟩,tK⟩,rfl,trivial⟩;rw[←a2];simp only[zar,zbr]
     ·rw[zaa hq] at a1 a2 a3;rw[zaa (show ¬(Ds r.source r.aF=true/\hasB y r.source r.aF=false) from λk=>hq k.2)];simp only[zaz,zbw];unfold jr;rw[hx,af (by simp only[zal];omega),af (by omega)];refine .inr ⟨_,rfl,⟨⟨a1,a2,?_⟩,hy,⟨by simp only;omega,by simp only[zah,zal];omega⟩,tK⟩,rfl,trivial⟩;rw[←a3];simp only[Uj,zar,zbr]
    ·rw[zaa hw] at a1 a2 a3 ⊢;rw[zaa (by decide)];unfold jr;rw[hx,af (by simp only[zal];omega),af (by omega)];refine .inr ⟨_,rfl,⟨⟨a1,a2,?_⟩,hy,⟨by simp only;omega,by simp only[zah,zal];omega⟩,tK⟩,rfl,trivial⟩;rw[←a3];simp only[Uj,zar,zbr]
  ·rw[zab (by simpa using hn),zaa hn];rfl
 ·rw[zab (by simpa using hc),zaa hc];rfl
theorem Nu (v:aG) (b:Batch) (w:bU) (h:Qx v b):(oa v b w).1.seen.length<=10000/\(oa v b w).1.open_.length<=10000/\(oa v b w).1.aP.length<=10000/\(oa v b w).2.1.length<=10000/\(oa v b w).2.2.1.length<=10000:=by
 have hs:=h.seen;have hh:=h.aP;have ho:=h.opens;have hr:=h.n9;have zo:=HX w v.seen b.records 0;have hj:=yB v.open_ (dP w v.seen 0 b.records).2.1;unfold oa;split
 ·split
  ·simp only[DB,zah,zal];omega
  ·simp [noS]
 ·simp [noS]
theorem Nv {s n f:Int} {l:O Range} (hf:f<=n) (h:∀ r,r∈l->PL s n r/\qC r) (hh:hasB l s n=false) (s' n':Int):hasB (sK s n f l) s' n'=(hasB l s' n' || decide (s=s'/\f<=n'/\n'<=n)):=by
 cases l with
 | nil=>simp [sK,hasB]
 | cons r l =>
  have hr:=h r (zaj ..);have hn:¬(r.source=s/\r.from_<=n/\n<=r.kV):=by
   have:=zel.1 hh r (zaj ..);simpa using this
  have ho:=hr.2;have hp:=hr.1;unfold qC at ho;unfold PL at hp;rw[sK];unfold hasB;by_cases h3:TR s n r
  ·rw[zab h3];unfold TR at h3;rw[zcs,zcs];generalize (l.any λr=>decide (r.source=s'/\r.from_<=n'/\n'<=r.kV))=q;rw[zbl];simp only[zbv,zak];constructor
   ·rintro (k|k)
    ·by_cases k2:n'<=n
     ·exact .inr (by omega)
     ·exact .inl (.inl (by omega))
    ·exact .inl (.inr k)
   ·rintro ((k|k)|k)
    ·exact .inl (by omega)
    ·exact .inr k
    ·exact .inl (by omega)
  ·rw[zaa h3,zcs,Bool.or_comm]
theorem Nw {s n:Int}:∀ {l:O Range},Can l->hasB l s n=false->∀ s' n',hasB (lV s n l) s' n'=(hasB l s' n' || decide (s=s'/\n=n'))
 | [],_,_,s',n'=>by
  simp only[lV,hasB,zcs,zeh,zdh,zdm];rw[zbl,zbs,zbs];omega
 | r::l,hc,hh,s',n'=>by
  have ho:=hc.ok r (zaj ..);have hs:=zav.1 hc.FI;have oc:=ho;unfold qC at oc;have e0:decide (s=s'/\n<=n'/\n'<=n)=decide (s=s'/\n=n'):=by rw[zbl,zbs,zbs];omega
  by_cases hp:PL s n r
  ·rw[lV,zab hp,Nv (by omega) (λx hx=>⟨by
    rcases zan.1 hx with rfl|hx
    ·exact hp
    ·exact Du (hs.1 x hx) (hc.ok x (zai _ hx)) hp,hc.ok x hx⟩) hh,e0]
  ·rw[lV,zaa hp];by_cases h1:TL s n r
   ·rw[zab h1];have Gp:=h1;unfold TL at Gp;rw[Nv (by omega) (λx hx=>⟨by
     have h3:=hs.1 x hx;have h5:=hc.ok x (zai _ hx);unfold BA at h3;unfold qC at h5;unfold PL;omega,hc.ok x (zai _ hx)⟩) (xA hh)]
    unfold hasB;rw[zcs];generalize (l.any λr=>decide (r.source=s'/\r.from_<=n'/\n'<=r.kV))=q;rw[zbl];simp only[zbv,zak];constructor
    ·rintro (k|k)
     ·exact .inl (.inr k)
     ·by_cases k2:n'=n
      ·exact .inr (by omega)
      ·exact .inl (.inl (by omega))
    ·rintro ((k|k)|k)
     ·exact .inr (by omega)
     ·exact .inl k
     ·exact .inr (by omega)
   ·rw[zaa h1];have ih:=Nw hc.tail (xA hh) s' n';unfold hasB at ih ⊢;rw[zcs,zcs,ih,Bool.or_assoc]
theorem Nx {s n f:Int} {l:O Range} (k:Int):nN k (sK s n f l)=nN k l+(if s=k then n-f+1 else 0):=by
 cases l with
 | nil=>simp [sK,nN]
 | cons r l =>
  rw[sK];by_cases h3:TR s n r
  ·rw[zab h3];unfold TR at h3;simp only[nN];by_cases hk:s=k
   ·rw[zab hk,zab (by omega),zab hk];omega
   ·rw[zaa hk,zaa (by omega),zaa hk];omega
  ·rw[zaa h3];simp only[nN];omega
theorem Ny {s n:Int} (k:Int):∀ (l:O Range),nN k (lV s n l)=nN k l+(if s=k then 1 else 0)
 | []=>by simp only[lV,nN];split <;> omega
 | r::l=>by
  rw[lV];by_cases hp:PL s n r
  ·rw[zab hp,Nx];split <;> omega
  ·rw[zaa hp];by_cases h1:TL s n r
   ·rw[zab h1,Nx];unfold TL at h1;simp only[nN];by_cases hk:s=k
    ·rw[zab hk,zab hk,zab (by omega)];omega
    ·rw[zaa hk,zaa hk,zaa (by omega)];omega
   ·rw[zaa h1];simp only[nN,Ny k l];omega
def NS (a b:aa):Prop:=¬(a.source=b.source/\a.aF=b.aF)
theorem Ga {a b:aa} (h:NS a b):NS b a:=λk=>h ⟨k.1.symm,k.2.symm⟩
theorem Qy (l:O Range):∀ (t d:O aa),T5 l d t=true↔(∀ r,r∈t->hasB l r.source r.aF=true/\Ds r.source r.aF=true)/\(∀ a,a∈d->∀ r,r∈t->NS a r)/\t.Pairwise NS
 | [],d=>by simp [T5]
 | r::t,d=>by
  rw[T5,zat,zat,zat,Qy l t (d++[r])];have e:(!(d.any λx=>z7 x r))=true↔∀ a,a∈d->NS a r:=by
   rw[zdu,zel];simp only[z7,zat,zak];exact Iff.rfl
  rw[e,zav];constructor
  ·rintro ⟨⟨⟨h1,h2⟩,h3⟩,h4,h5,h6⟩;refine ⟨λx hx=>?_,λa ha x hx=>?_,λx hx=>h5 r (by simp) x hx,h6⟩
   ·rcases zan.1 hx with rfl|hx
    ·exact ⟨h1,h2⟩
    ·exact h4 x hx
   ·rcases zan.1 hx with rfl|hx
    ·exact h3 a ha
    ·exact h5 a (zca _ ha) x hx
  ·rintro ⟨h1,h2,h3,h4⟩;refine ⟨⟨h1 r (zaj ..),λa ha=>h2 a ha r (zaj ..)⟩,λx hx=>h1 x (zai _ hx),λa ha x hx=>?_,h4⟩;rcases zbc.1 ha with ha|ha
   ·exact h2 a ha x (zai _ hx)
   ·simp at ha;subst ha;exact h3 x hx
theorem yC (l:O Range) (t:O aa):T5 l [] t=true↔(∀ r,r∈t->hasB l r.source r.aF=true/\Ds r.source r.aF=true)/\t.Pairwise NS:=by
 rw[Qy];simp
theorem Up {now:O aa} {r:aa} (h:now.Pairwise NS) (hr:∀ a,a∈now->NS a r):(iN now r).2.Pairwise NS/\∀ x,x∈(iN now r).2->x=r∨x∈now:=by
 unfold iN;split
 ·exact ⟨h,λx hx=>.inr hx⟩
 ·have hi:(mK now r).Pairwise NS:=((xw now r).pairwise_iff Ga).2 (zav.2 ⟨λa ha=>Ga (hr a ha),h⟩);have RW:=AB r (now.length+2) (mK now r);exact ⟨hi.sublist RW,λx hx=>xx.1 (RW.subset hx)⟩
theorem Nz:∀ {l now:O aa},(now++l).Pairwise NS->(eP now l).2.Pairwise NS/\∀ x,x∈(eP now l).2->x∈now++l
 | [],now,h=>by
  rw[zbp] at h;exact ⟨h,λx hx=>by simpa [eP] using hx⟩
 | r::l,now,h=>by
  have h':=zed.1 h;obtain ⟨k1,k2⟩:=Up h'.1 (λa ha=>h'.2.2 a ha r (zaj ..));have hl:=zav.1 h'.2.1;have:((iN now r).2++l).Pairwise NS:=zed.2 ⟨k1,hl.2,λa ha b hb=>by
   rcases k2 a ha with rfl|ha
   ·exact hl.1 b hb
   ·exact h'.2.2 a ha b (zai _ hb)⟩
  obtain ⟨m1,m2⟩:=Nz this;simp only[eP];refine ⟨m1,λx hx=>?_⟩;rcases zbc.1 (m2 x hx) with hx|hx
  ·rcases k2 x hx with rfl|hx
   ·simp
   ·simp [hx]
  ·simp [hx]
theorem DC (w:bU):∀ (t:O aa) (l:O Range) (i:Int),Can l->(∀ r,r∈t->da r=0)->Can (dP w l i t).1/\(∀ s n,hasB l s n=true->hasB (dP w l i t).1 s n=true)/\(∀ r,r∈(dP w l i t).2.1->hasB (dP w l i t).1 r.source r.aF=true/\hasB l r.source r.aF=false)/\(dP w l i t).2.1.Pairwise NS/\(∀ r,r∈t->JJ w r->hasB (dP w l i t).1 r.source r.aF=true)
 | [],l,i,hc,_=>⟨hc,λ_ _ h=>h,by simp [dP],by simp [dP],by simp⟩
 | r::t,l,i,hc,hv=>by
  have hid:=HT (hv r (zaj ..));have BN:∀ x,x∈t->da x=0:=λx hx=>hv x (zai _ hx)
  by_cases hw:JJ w r
  ·by_cases hh:hasB l r.source r.aF=false
   ·obtain ⟨a1,a2,a3,a4,a5⟩:=DC w t (lV r.source r.aF l) (i+1) (Dz hid hc hh).1 BN;have Ww:=Nw hc hh;have Uq:hasB (lV r.source r.aF l) r.source r.aF=true:=by rw[Ww];simp
    simp only[dP,zab hw,zab hh];refine ⟨a1,λs n h=>a2 s n (by rw[Ww,h,zfd]),λx hx=>?_,zav.2 ⟨λx hx k=>?_,a4⟩,λx hx hxw=>?_⟩
    ·rcases zan.1 hx with rfl|hx
     ·exact ⟨a2 _ _ Uq,hh⟩
     ·have:=a3 x hx;rw[Ww,zge] at this;exact ⟨this.1,this.2.1⟩
    ·have:=(a3 x hx).2;rw[←k.1,←k.2,Uq] at this;cases this
    ·rcases zan.1 hx with rfl|hx
     ·exact a2 _ _ Uq
     ·exact a5 x hx hxw
   ·obtain ⟨a1,a2,a3,a4,a5⟩:=DC w t l (i+1) hc BN;simp only[dP,zab hw,zaa hh];refine ⟨a1,a2,a3,a4,λx hx hxw=>?_⟩;rcases zan.1 hx with rfl|hx
    ·exact a2 _ _ (by simpa using hh)
    ·exact a5 x hx hxw
  ·obtain ⟨a1,a2,a3,a4,a5⟩:=DC w t l (i+1) hc BN;simp only[dP,zaa hw];refine ⟨a1,a2,a3,a4,λx hx hxw=>?_⟩;rcases zan.1 hx with rfl|hx
   ·exact absurd hxw hw
   ·exact a5 x hx hxw
theorem NA {s:Int}:∀ {l:O aa},FL s l=0->∀ r,r∈l->r.source=s
 | [],_,r,h=>by cases h
 | x::l,hc,r,h=>by
  rw[FL] at hc;by_cases he:da x=0
  ·rw[zab he] at hc;by_cases hs:x.source=s
   ·rw[zab hs] at hc;rcases zan.1 h with rfl|h
    ·exact hs
    ·exact NA hc r h
   ·rw[zaa hs] at hc;omega
  ·rw[zaa he] at hc;exact absurd hc he
theorem Ur {b:Batch} (h:A4 b=0):∀ r,r∈b.records->r.source=b.source:=by
 unfold A4 at h;by_cases h1:Oc b.source b.number b.format=0
 ·rw[zab h1] at h;by_cases h2:4096<b.records.length
  ·rw[zab h2] at h;omega
  ·rw[zaa h2] at h;exact NA h
 ·rw[zaa h1] at h;exact absurd h h1
theorem Lf (w:bU) (s k:Int):∀ (t:O aa) (l:O Range) (i:Int),(∀ r,r∈t->r.source=s)->nN k (dP w l i t).1=nN k l+(if s=k then ((dP w l i t).2.1.length:Int) else 0)
 | [],l,i,_=>by simp [dP]
 | r::t,l,i,h=>by
  have hr:=h r (zaj ..);have h':∀ x,x∈t->x.source=s:=λx hx=>h x (zai _ hx)
  by_cases hw:JJ w r
  ·by_cases hh:hasB l r.source r.aF=false
   ·have ih:=Lf w s k t (lV r.source r.aF l) (i+1) h';simp only[dP,zab hw,zab hh,zad];rw[ih,Ny,hr];by_cases hk:s=k
    ·simp only[zab hk];omega
    ·simp only[zaa hk];omega
   ·simp only[dP,zab hw,zaa hh];exact Lf w s k t l (i+1) h'
  ·simp only[dP,zaa hw];exact Lf w s k t l (i+1) h'
theorem NB:∀ {l d:O Head} {h:Head},Nb d l=true->ED h->h.number=lA h.source 1 (d++l)->Nb d (l++[h])=true
 | [],d,h,_,ho,hn=>by
  rw[zbp] at hn;simp only[zbt,Nb,zeu,zak];exact ⟨ho,hn⟩
 | x::l,d,h,hb,ho,hn=>by
  simp only[Nb,List.cons_append,zat] at hb ⊢;refine ⟨hb.1,NB hb.2 ho ?_⟩;rw[hn];simp
theorem Us {v:aG} {b:Batch} {w:bU} (h:Qx v b) (hc:A4 b=0) (hn:b.number=lA b.source 1 v.aP):o7 (DB v b w).1:=by
 obtain ⟨k1,k2,k3,k4,k5⟩:=Dy hc;obtain ⟨a1,a2,a3,a4,a5⟩:=DC w b.records v.seen 0 h.qW.can k5;have hfv:∀ r,r∈(dP w v.seen 0 b.records).2.1->da r=0:=λr hr=>k5 r (HW hr)
 have IY:=(yC _ _).1 h.qW.ids;have zo:=HX w v.seen b.records 0;refine ⟨NB h.qW.aP ?_ (by simpa using hn),a1,EA h.qW.T6 hfv,?_,?_⟩
 ·unfold ED;simp only;omega
 ·rw[Dw];intro k _ _;have h1:=(Dw _ _ _ _).1 h.qW.Gx k (by omega) (by omega);show nN k (dP w v.seen 0 b.records).1<=yz k (v.aP++[_]);rw[Lf w b.source k b.records v.seen 0 (Ur hc),EE];simp only;split <;> omega
 ·rw[yC];have hns:(v.open_++(dP w v.seen 0 b.records).2.1).Pairwise NS:=zed.2 ⟨IY.2,a4,λx hx y hy k=>by
   have h1:=(IY.1 x hx).1;have h2:=(a3 y hy).2;rw[k.1,k.2,h2] at h1;cases h1⟩
  obtain ⟨m1,m2⟩:=Nz hns;refine ⟨λr hr=>?_,m1⟩;rcases zbc.1 (m2 r hr) with hx|hx
  ·exact ⟨a2 _ _ (IY.1 r hx).1,(IY.1 r hx).2⟩
  ·exact ⟨(a3 r hx).1,HT (hfv r hx)⟩
theorem Pm {v:aG} (h:o7 v) (b:Int):o7 ⟨v.seen,(jb b v.open_.length v.open_).2,v.aP⟩:=by
 have hs:=Dn b v.open_.length v.open_;have IY:=(yC _ _).1 h.ids;exact ⟨h.aP,h.can,TU h.T6 b (zaq _),h.Gx,(yC _ _).2 ⟨λr hr=>IY.1 r (hs.subset hr),IY.2.sublist hs⟩⟩
def Ch (v:aG) (b:Int):aG×O aa:=(⟨v.seen,(jb b v.open_.length v.open_).2,v.aP⟩,(jb b v.open_.length v.open_).1)
theorem Wx (v:aG) (b:Int) (hg:o7 v) (h1:v.seen.length<=600) (h2:v.open_.length<=600) (h3:v.aP.length<=600):oP v b=some (Ch v b):=by
 unfold oP qq gK dv kW;rw[af (by omega),af (by omega),af (by omega)];simp only[zac];rw[T4 v.open_ b hg.T6.wt (by omega)];rfl
theorem Ut (v:aG) (b:Int) (hg:o7 v) (h1:v.seen.length<=600) (h2:v.open_.length<=600) (h3:v.aP.length<=600):tr v b=some (Ch v b):=by
 unfold tr;rw[RP v.open_ b hg.T6.wt.sm (by omega)];simp only[zac];rw[af (by omega),af (by omega)];rfl
structure RunI (V:aG) (i:Int):Prop where
 qW:o7 V
 seen:(V.seen.length:Int)<=40*i
 aP:(V.aP.length:Int)<=i
 opens:(V.open_.length:Int)<=40*i
theorem RunI.next {V:aG} {i:Int} (h:RunI V i) (hi:i<=12) (s:Int):iP V s=some (if 1<=s/\s<=99 then lA s 1 V.aP else 0) :=
 O9 V s (by have:=h.aP;omega) (λx hx=>K7 (HP h.qW.aP x hx))
def xB {α:Type} (lt:α->α->Bool) (x:α):List α->List α
 | []=>[x]
 | y::t=>if lt y x=true then y::xB lt x t else x::y::t
theorem DD {α:Type} (lt:α->α->Bool) (x:α):∀ (l:O α),(xB lt x l).length=l.length+1
 | []=>rfl
 | y::t=>by
  unfold xB;split
  ·rw[zad,DD lt x t,zad]
  ·rfl
theorem Gb {α:Type} (lt:α->α->Bool) (x:α):∀ (l:O α) (z:α),z∈xB lt x l↔z=x∨z∈l
 | [],z=>by simp [xB]
 | y::t,z=>by
  unfold xB;split
  ·rw[zan,Gb lt x t z,zan];constructor
   ·rintro (h|h|h)
    ·exact .inr (.inl h)
    ·exact .inl h
    ·exact .inr (.inr h)
   ·rintro (h|h|h)
    ·exact .inr (.inl h)
    ·exact .inl h
    ·exact .inr (.inr h)
  ·rw[zan]
theorem HY {α:Type} [Inhabited α] {step:Int->J (Int ⊕ O α)} (l:O α) (x:α) (lt:α->α->Bool) (hl:l.length<=100000)
  (h:∀ i:Int,0<=i->i<=(l.length:Int)->step i=if i<(l.length:Int)/\lt (nth l i.toNat) x=true then some (.inl (i+1)) else some (.inr ((l.take i.toNat++[x])++l.drop i.toNat))):loop step 0=some (xB lt x l):=by
 have:=bm (step:=step) l (λi:Int=>i) (λi t=>some (l.take i.toNat++xB lt x t)) (λi t=>l.drop i.toNat=t/\0<=i) (by omega) ?_ ?_ (s:=0) rfl ⟨by simp,by omega⟩
 ·rw[this];simp
 ·rintro i ⟨h1,h2⟩ h3;refine ⟨(l.take i.toNat++[x])++l.drop i.toNat,?_,?_⟩
  ·rw[h i h2 (by omega),zaa (by omega)]
  ·rw[h1];simp [xB]
 ·rintro i a t ⟨h1,h2⟩ h3 h4 h5 h6;by_cases cT:lt a x=true
  ·refine .inr ⟨i+1,?_,⟨?_,by omega⟩,rfl,?_⟩
   ·rw[h i h2 (by omega),zab ⟨h4,by rw[h5];exact cT⟩]
   ·rw[show (i+1).toNat=i.toNat+1 from by omega,←List.drop_drop,h1];rfl
   ·rw[show (i+1).toNat=i.toNat+1 from by omega,ta (by omega),h5];simp [xB,cT]
  ·refine .inl ⟨(l.take i.toNat++[x])++l.drop i.toNat,?_,?_⟩
   ·rw[h i h2 (by omega),zaa (by rw[h5];exact λk=>cT k.2)]
   ·rw[h1];simp [xB,cT]
def IZ (a b:Int):Bool:=decide (a<b)
theorem NC (l:O Int) (x:Int) (hl:l.length<=100000):gA l x=some (xB IZ x l):=by
 unfold gA;refine HY l x IZ hl λi h0 h1=>?_
 unfold mw;rw[af (λk=>⟨h0,by simpa using k⟩)];have hj:fe l x i=some ((l.take i.toNat++[x])++l.drop i.toNat):=by
  unfold fe;have e1:(l.take i.toNat).length<=l.length:=zgf ..;have e2:(l.drop i.toNat).length<=l.length:=by rw[zbh];omega
  rw[af ⟨h0,h1⟩,af (by omega),af (by rw[zal];omega),af ⟨h0,h1⟩,af (by rw[zah,zal];omega)]
 rw[hj];by_cases hc:i<(l.length:Int)/\IZ (nth l i.toNat) x=true
 ·rw[zab hc,zab (by simp only[zat,zak];exact ⟨hc.1,by simpa [IZ] using hc.2⟩),af ⟨by omega,by omega⟩]
 ·rw[zaa hc,zaa (λk=>hc (by simp only[zat,zak] at k;exact ⟨k.1,by simpa [IZ] using k.2⟩))];rfl
theorem ND (l:O (O uA)) (x:O uA) (hl:l.length<=100000):ff l x=some (xB pM x l):=by
 unfold ff;refine HY l x pM hl λi h0 h1=>?_
 unfold j6;rw[af (λk=>⟨h0,by simpa using k⟩)];have hj:ek l x i=some ((l.take i.toNat++[x])++l.drop i.toNat):=by
  unfold ek;have e1:(l.take i.toNat).length<=l.length:=zgf ..;have e2:(l.drop i.toNat).length<=l.length:=by rw[zbh];omega
  rw[af ⟨h0,h1⟩,af (by omega),af (by rw[zal];omega),af ⟨h0,h1⟩,af (by rw[zah,zal];omega)]
 rw[hj];by_cases hc:i<(l.length:Int)/\pM (nth l i.toNat) x=true
 ·rw[zab hc,zab (by simp only[zat,zak];exact hc),af ⟨by omega,by omega⟩]
 ·rw[zaa hc,zaa (λk=>hc (by simpa only [zat,zak] using k))];rfl
theorem Uu (l:O (O uA)) (x:O uA) (hl:l.length<=100000):sk l x=some (xB pM x l):=by
 unfold sk;refine HY l x pM hl λi h0 h1=>?_
 unfold wA;rw[af (λk=>⟨h0,by simpa using k⟩)];have hj:nE l x i=some ((l.take i.toNat++[x])++l.drop i.toNat):=by
  unfold nE;have e1:(l.take i.toNat).length<=l.length:=zgf ..;have e2:(l.drop i.toNat).length<=l.length:=by rw[zbh];omega
  simp only[zbt,zas,zbu];rw[af ⟨h0,h1⟩,af (by omega),af (by rw[zal];omega),af ⟨h0,h1⟩,af (by rw[zah,zal];omega)]
 rw[hj];by_cases hc:i<(l.length:Int)/\pM (nth l i.toNat) x=true
 ·rw[zab hc,zab (by simp only[zat,zak];exact hc),af ⟨by omega,by omega⟩]
 ·rw[zaa hc,zaa (λk=>hc (by simpa only [zat,zak] using k))];rfl
def I0 (x:O uA) (l:O (O uA)):O (O uA):=l.filter (· != x)
theorem NG {step:O (O uA)×Int->J ((O (O uA)×Int) ⊕ O (O uA))} (l:O (O uA)) (x:O uA) (hl:l.length<=100000)
  (h:∀ (o:O (O uA)) (i:Int),0<=i->i<=(l.length:Int)->(o.length:Int)<=i->step (o,i)=if i<(l.length:Int) then some (.inl (if (nth l i.toNat != x)=true then o++[nth l i.toNat] else o,i+1)) else some (.inr o)):loop step ([],0)=some (I0 x l):=by
 have:=bm (step:=step) l (λs=>s.2) (λs t=>some (s.1++I0 x t)) (λs t=>0<=s.2/\s.2<=(l.length:Int)/\(s.1.length:Int)<=s.2) (by omega) ?_ ?_ (s:=([],0)) rfl ⟨by simp,by simp,by simp⟩
 ·rw[this];simp
 ·rintro ⟨o,i⟩ ⟨h1,h2,h3⟩ h4;refine ⟨o,?_,?_⟩
  ·rw[h o i h1 h2 h3,zaa (by simp only at h4;omega)]
  ·simp [I0]
 ·rintro ⟨o,i⟩ a t ⟨h1,h2,h3⟩ h4 h5 h6 h7;simp only at h1 h2 h3 h4 h5 h6 h7;refine .inr ⟨(if (nth l i.toNat != x)=true then o++[nth l i.toNat] else o,i+1),?_,⟨by simp only;omega,by simp only;omega,?_⟩,rfl,?_⟩
  ·rw[h o i h1 h2 h3,zab h5]
  ·simp only;split
   ·rw[zah,zal];omega
   ·omega
  ·simp only;rw[h6];unfold I0;rw[zbk];split <;> simp
theorem NH (l:O (O uA)) (x:O uA) (hl:l.length<=100000):jh l x=some (I0 x l):=by
 unfold jh;refine NG l x hl λo i h0 h1 h2=>?_
 unfold oC;by_cases hi:i<(l.length:Int)
 ·rw[zab (by simpa using hi),zab hi,af ⟨h0,hi⟩];split
  ·rw[af (by simp only[zal];omega),af ⟨by omega,by omega⟩]
  ·rw[af ⟨by omega,by omega⟩]
 ·rw[zaa (by simpa using hi),zaa hi]
theorem JL (l:O (O uA)) (x:O uA) (hl:l.length<=100000):nF l x=some (I0 x l):=by
 unfold nF;refine NG l x hl λo i h0 h1 h2=>?_
 unfold sn;by_cases hi:i<(l.length:Int)
 ·rw[zab (by simpa using hi),zab hi,af ⟨h0,hi⟩];split
  ·rw[af ⟨h0,hi⟩,af (by simp only[zal];omega),af ⟨by omega,by omega⟩]
  ·rw[af ⟨by omega,by omega⟩]
 ·rw[zaa (by simpa using hi),zaa hi]
theorem Qz (x:O uA) (l:O (O uA)):(I0 x l).length<=l.length:=List.length_filter_le ..
abbrev W7:=(O Int)×(O Int)×(O (Int×aq))×(O (Int×Sub))×(O (Int×Bool))×(O ((O uA)×Int))×(O (Int×Int))
abbrev wm:Sub:=⟨0,0,0,([]:O uA),([]:O (O uA)),([]:O (O uA)),false,false⟩
section maps
variable {κ α:Type} [BEq κ] [LawfulBEq κ]
theorem o8 (p:κ×α) (l:O (κ×α)) (k:κ):aC (p::l) k=if k==p.1 then some p.2 else aC l k:=by
 unfold aC;rw[List.find?_cons];split <;> simp_all
theorem HZ (p:κ×α) (l:O (κ×α)) (k:κ):eI (p::l) k=if k==p.1 then some 0 else (eI l k).map (·+1):=by
 unfold eI;rw[List.findIdx?_cons]
theorem EF (p:κ×α) (l:O (κ×α)) (k:κ) (v:α):dm (p::l) k v=if k==p.1 then (k,v)::l else p::dm l k v:=by
 unfold dm;rw[HZ];by_cases h:(k==p.1)=true
 ·rw[zab h,zab h];rfl
 ·rw[zaa h,zaa h];cases eI l k <;> rfl
theorem Aa (p:κ×α) (l:O (κ×α)) (k:κ):gg (p::l) k=if k==p.1 then l else p::gg l k:=by
 unfold gg;rw[HZ];by_cases h:(k==p.1)=true
 ·rw[zab h,zab h];rfl
 ·rw[zaa h,zaa h];cases eI l k <;> rfl
theorem dV (k:κ) (v:α) (k':κ):∀ (l:O (κ×α)),aC (dm l k v) k'=if k'==k then some v else aC l k'
 | []=>by
  show aC [(k,v)] k'=_;rw[o8]
 | p::l=>by
  have ih:=dV k v k' l;rw[EF];by_cases h:(k==p.1)=true
  ·have e:=eq_of_beq h;rw[zab h,o8,o8,←e];by_cases h2:(k'==k)=true
   ·rw[zab h2,zab h2]
   ·rw[zaa h2,zaa h2,zaa h2]
  ·rw[zaa h,o8,o8,ih];by_cases h2:(k'==k)=true
   ·have e:=eq_of_beq h2;rw[zab h2,zaa (by rw[e];exact h),zab h2]
   ·rw[zaa h2,zaa h2]
theorem JM (k:κ) (v:α) (z:κ):∀ (l:O (κ×α)),z∈(dm l k v).map (·.1)↔z=k∨z∈l.map (·.1)
 | []=>by simp [dm,eI]
 | p::l=>by
  rw[EF];split
  ·rename_i h;have e:=eq_of_beq h;simp [e]
  ·rw[zao,zan,JM k v z l,zao,zan];constructor
   ·rintro (h|h|h)
    ·exact .inr (.inl h)
    ·exact .inl h
    ·exact .inr (.inr h)
   ·rintro (h|h|h)
    ·exact .inr (.inl h)
    ·exact .inl h
    ·exact .inr (.inr h)
theorem yD (k:κ) (v:α):∀ {l:O (κ×α)},(l.map (·.1)).Nodup->((dm l k v).map (·.1)).Nodup
 | [],_=>by simp [dm,eI]
 | p::l,h=>by
  rw[zao,zcb] at h;rw[EF];split
  ·rename_i e;rw[zao,zcb,show k=p.1 from eq_of_beq e];exact h
  ·rename_i e;rw[zao,zcb];refine ⟨λhm=>?_,yD k v h.2⟩;rcases (JM k v p.1 l).1 hm with h1|h1
   ·exact e (by rw[h1];exact zfj k)
   ·exact h.1 h1
theorem H0 (k:κ) (z:κ):∀ (l:O (κ×α)),z∈(gg l k).map (·.1)->z∈l.map (·.1)
 | [],h=>by simp [gg,eI] at h
 | p::l,h=>by
  rw[Aa] at h;split at h
  ·exact zai _ h
  ·rw[zao,zan] at h ⊢;exact h.imp id (H0 k z l)
theorem DE (k:κ):∀ {l:O (κ×α)},(l.map (·.1)).Nodup->((gg l k).map (·.1)).Nodup
 | [],_=>by simp [gg,eI]
 | p::l,h=>by
  rw[zao,zcb] at h;rw[Aa];split
  ·exact h.2
  ·rw[zao,zcb];exact ⟨λhm=>h.1 (H0 k _ l hm),DE k h.2⟩
theorem uP (k k':κ):∀ {l:O (κ×α)},(l.map (·.1)).Nodup->aC (gg l k) k'=if k'==k then none else aC l k'
 | [],_=>by
  have:gg ([]:O (κ×α)) k=[]:=rfl;rw[this];unfold aC;simp
 | p::l,h=>by
  rw[zao,zcb] at h;rw[Aa];by_cases e:(k==p.1)=true
  ·have e':=eq_of_beq e;rw[zab e];by_cases h2:(k'==k)=true
   ·rw[zab h2,OC];rw[eq_of_beq h2,e'];exact h.1
   ·rw[zaa h2,o8,←e',zaa h2]
  ·rw[zaa e,o8,o8,uP k k' h.2];by_cases h2:(k'==k)=true
   ·rw[zab h2,zaa (by rw[eq_of_beq h2];exact e),zab h2]
   ·rw[zaa h2,zaa h2]
end maps
def apO (e:Event) (w:W7):J W7:=fC e w.1 w.2.1 w.2.2.1 w.2.2.2.1 w.2.2.2.2.1 w.2.2.2.2.2.1 w.2.2.2.2.2.2
def QA (s:Sub) (e:Event):Sub :=
 if e.kind=5 then { s with numbers:=xB pM e.number s.numbers }
 else if e.kind=6 then { s with numbers:=I0 e.number s.numbers }
 else if e.kind=7 then { s with xb:=e.name }
 else if e.kind=8 then { s with cJ:=xB pM e.name s.cJ }
 else if e.kind=9 then { s with cJ:=I0 e.name s.cJ }
 else if e.kind=10 then { s with bY:=true }
 else if e.kind=11 then { s with bY:=false }
 else if e.kind=12 then { s with family:=true }
 else if e.kind=13 then { s with family:=false }
 else s
def Ci (e:Event):Sub:=⟨e.sub,e.az,e.at_,e.name,[],[],false,false⟩
def Uv (e:Event) (w:W7):O Int:=if e.kind=3/\(aC w.2.2.2.2.1 e.sub).getD false=false then xB IZ e.sub w.2.1 else w.2.1
def evF (e:Event) (w:W7):O (Int×Bool):=if e.kind=3 then dm w.2.2.2.2.1 e.sub true else w.2.2.2.2.1
def RX (e:Event) (w:W7):List (Int×Sub) :=
 if e.kind=3 then dm w.2.2.2.1 e.sub (Ci e)
 else if e.kind=4 then gg w.2.2.2.1 e.sub
 else if e.kind=1∨e.kind=2∨e.kind=14∨e.kind=15 then w.2.2.2.1
 else match aC w.2.2.2.1 e.sub with
  | some s=>dm w.2.2.2.1 e.sub (QA s e)
  | none=>w.2.2.2.1
structure WB (n:Nat) (w:W7):Prop where
 opened:w.1.length<=n
 added:w.2.1.length<=n
 nums:∀ k s,aC w.2.2.2.1 k=some s->s.numbers.length<=n/\s.cJ.length<=n
 live:∀ k,-(n:Int)<=(aC w.2.2.2.2.2.2 k).getD 0/\(aC w.2.2.2.2.2.2 k).getD 0<=(n:Int)
 keys:(w.2.2.2.1.map (·.1)).Nodup
theorem WB.up {n:Nat} {w:W7} (h:WB n w):WB (n+1) w:=⟨by have:=h.opened;omega,by have:=h.added;omega,λk s hs=>by have:=h.nums k s hs;omega,λk=>by have:=h.live k;omega,h.keys⟩
theorem RY (s:Sub) (e:Event) (a b:O Int) (c:O (Int×aq)) (d:O (Int×Sub)) (f:O (Int×Bool)) (o:O ((O uA)×Int)) (l:O (Int×Int)) (h1:s.numbers.length<=100000) (h2:s.cJ.length<=100000) :
  ∃ o',fU s e a b c d f o l=some (QA s e,o'):=by
 unfold fU QA;by_cases k5:e.kind=5
 ·rw[zab (by simpa using k5),ND _ _ h1,zab k5];exact ⟨_,rfl⟩
 rw[zaa (by simpa using k5),zaa k5];by_cases k6:e.kind=6
 ·rw[zab (by simpa using k6),NH _ _ h1,zab k6];exact ⟨_,rfl⟩
 rw[zaa (by simpa using k6),zaa k6];by_cases k7:e.kind=7
 ·rw[zab (by simpa using k7),zab k7];exact ⟨_,rfl⟩
 rw[zaa (by simpa using k7),zaa k7];by_cases k8:e.kind=8
 ·rw[zab (by simpa using k8),ND _ _ h2,zab k8];exact ⟨_,rfl⟩
 rw[zaa (by simpa using k8),zaa k8];by_cases k9:e.kind=9
 ·rw[zab (by simpa using k9),NH _ _ h2,zab k9];exact ⟨_,rfl⟩
 rw[zaa (by simpa using k9),zaa k9];by_cases Q6:e.kind=10
 ·rw[zab (by simpa using Q6),zab Q6];exact ⟨_,rfl⟩
 rw[zaa (by simpa using Q6),zaa Q6];by_cases Wy:e.kind=11
 ·rw[zab (by simpa using Wy),zab Wy];exact ⟨_,rfl⟩
 rw[zaa (by simpa using Wy),zaa Wy];by_cases Wz:e.kind=12
 ·rw[zab (by simpa using Wz),zab Wz];exact ⟨_,rfl⟩
 rw[zaa (by simpa using Wz),zaa Wz];by_cases WA:e.kind=13
 ·rw[zab (by simpa using WA),zab WA];exact ⟨_,rfl⟩
 rw[zaa (by simpa using WA),zaa WA];exact ⟨_,rfl⟩
theorem QB (s:Sub) (e:Event):(QA s e).numbers.length<=s.numbers.length+1/\(QA s e).cJ.length<=s.cJ.length+1:=by
 unfold QA;have a:=DD pM e.number s.numbers;have b:=DD pM e.name s.cJ;have c:=Qz e.number s.numbers;have d:=Qz e.name s.cJ
 repeat' split
 all_goals first|omega|(simp only;omega)
theorem Lg (n:Nat) (e:Event) (w:W7) (h:WB n w) (hn:n<=10000):∃ w',apO e w=some w'/\WB (n+1) w'/\w'.2.1=Uv e w/\w'.2.2.2.1=RX e w/\w'.2.2.2.2.1=evF e w:=by
 obtain ⟨op,ad,ac,su,ev,ow,li⟩:=w;have h1:=h.opened;have h2:=h.added;have h3:=h.nums;have h4:=h.live;have h5:=h.keys;simp only at h1 h2 h3 h4 h5;have up:=h.up;unfold apO Uv RX evF;simp only;have hu1:=up.opened;have U7:=up.added;have hu3:=up.nums;have hu4:=up.live;simp only at hu1 U7 hu3 hu4;unfold fC;by_cases k1:e.kind=1
 ·have n3:¬e.kind=3:=by omega
  have n4:¬e.kind=4:=by omega
  rw[zab (by simpa using k1)];simp only[n3,n4,k1,false_and,zbw,true_or,zby];split
  ·rw[NC _ _ (by omega),zac];unfold dI;exact ⟨_,rfl,⟨by simp only[DD];omega,U7,hu3,hu4,h5⟩,rfl,rfl,rfl⟩
  ·unfold dI;exact ⟨_,rfl,⟨hu1,U7,hu3,hu4,h5⟩,rfl,rfl,rfl⟩
 rw[zaa (by simpa using k1)];by_cases k2:e.kind=2
 ·have n3:¬e.kind=3:=by omega
  have n4:¬e.kind=4:=by omega
  rw[zab (by simpa using k2)];simp only[n3,n4,k2,false_and,zbw,true_or,or_true,zby];exact ⟨_,rfl,⟨hu1,U7,hu3,hu4,h5⟩,rfl,rfl,rfl⟩
 rw[zaa (by simpa using k2)];by_cases k3:e.kind=3
 ·rw[zab (by simpa using k3)];simp only[k3,true_and,zby];have hl:dp ((aC li e.az).getD 0+1):=by have:=h4 e.az;exact ⟨by omega,by omega⟩
  have live':∀ k,-((n+1:Nat):Int)<=(aC (dm li e.az ((aC li e.az).getD 0+1)) k).getD 0/\(aC (dm li e.az ((aC li e.az).getD 0+1)) k).getD 0<=((n+1:Nat):Int):=λk=>by
   rw[dV];split
   ·have:=h4 e.az;simp only[zcj];omega
   ·exact hu4 k
  have NI:∀ k s,aC (dm su e.sub (⟨e.sub,e.az,e.at_,e.name,([]:List (List uA)),([]:List (List uA)),false,false⟩:Sub)) k=some s->s.numbers.length<=n+1/\s.cJ.length<=n+1:=λk s hs=>by
   rw[dV] at hs;split at hs
   ·cases hs;simp
   ·exact hu3 k s hs
  by_cases Sv:(aC ev e.sub).getD false=false
  ·rw[zab (by rw[Sv];rfl),NC _ _ (by omega),zac,zab Sv];unfold dJ;rw[af hl];exact ⟨_,rfl,⟨hu1,by simp only[DD];omega,NI,live',yD _ _ h5⟩,rfl,rfl,rfl⟩
  ·rw[zaa (by simpa using Sv),zaa Sv];unfold dJ;rw[af hl];exact ⟨_,rfl,⟨hu1,U7,NI,live',yD _ _ h5⟩,rfl,rfl,rfl⟩
 rw[zaa (by simpa using k3)];simp only[k3,false_and,zbw];by_cases k4:e.kind=4
 ·rw[zab (by simpa using k4)];simp only[k4,zby];have Ys:((aC su e.sub).getD wm).numbers.length<=n:=by
   cases hs:aC su e.sub with
   | none=>simp [wm]
   | some s=>exact (h3 _ _ hs).1
  have key:∀ o,∃ o',loop (λs:Int×List ((List uA)×Int)=>fG e op ad ac su ev li s.1 s.2) (0,o)=cR e op ad ac su ev li o':=λo=>by
   refine ⟨((aC su e.sub).getD wm).numbers.foldl gg o,?_⟩;have hF:∀ o,∃ r,cR e op ad ac su ev li o=some r:=λo=>by
    unfold cR;have hl:dp ((aC li ((aC su e.sub).getD wm).az).getD 0-1):=by have:=h4 ((aC su e.sub).getD wm).az;exact ⟨by omega,by omega⟩
    rw[af hl];exact ⟨_,rfl⟩
   refine bm ((aC su e.sub).getD wm).numbers (λs=>s.1) (λs t=>cR e op ad ac su ev li (t.foldl gg s.2)) (λs t=>0<=s.1) (by omega) ?_ ?_ (s:=(0,o)) rfl (by simp)
   ·rintro ⟨i,o⟩ hi h6;simp only at hi h6;obtain ⟨r,hr⟩:=hF o;refine ⟨r,?_,hr⟩;unfold fG;simp only;rw[zaa (by rw[zak];show ¬ i<(((aC su e.sub).getD wm).numbers.length:Int);omega),hr];rfl
   ·rintro ⟨i,o⟩ a t hi h6 h7 h8 h9;simp only at hi h6 h7 h8 h9;refine .inr ⟨(i+1,gg o a),?_,by simp only;omega,rfl,rfl⟩;unfold fG;simp only;rw[zab (by simpa using h7),af ⟨h6,h7⟩,af ⟨by omega,by omega⟩,h8]
  obtain ⟨o',ho⟩:=key ow;rw[ho];unfold cR;have hl:dp ((aC li ((aC su e.sub).getD wm).az).getD 0-1):=by have:=h4 ((aC su e.sub).getD wm).az;exact ⟨by omega,by omega⟩
  rw[af hl];refine ⟨_,rfl,⟨hu1,U7,λk s hs=>?_,λk=>?_,DE _ h5⟩,rfl,rfl,rfl⟩
  ·simp only at hs;rw[uP _ _ h5] at hs;split at hs
   ·cases hs
   ·exact hu3 k s hs
  ·simp only;rw[dV];split
   ·have:=h4 ((aC su e.sub).getD wm).az;simp only[zcj];unfold wm at this;omega
   ·exact hu4 k
 rw[zaa (by simpa using k4)];simp only[k4,zbw];have hj:∀ b:Bool,(b=true->e.kind=14∨e.kind=15)->(b=false->¬(e.kind=14∨e.kind=15))->∃ w',dK e op ad ac su ev ow li b=some w'/\WB (n+1) w'/\w'.2.1=ad/\w'.2.2.2.1=(if e.kind=1∨e.kind=2∨e.kind=14∨e.kind=15 then su else match aC su e.sub with|some s=>dm su e.sub (QA s e)|none=>su)/\w'.2.2.2.2.1=ev:=λb Gq Gr=>by
  unfold dK;cases b with
  | true=>rw[zab rfl,zab (.inr (.inr (Gq rfl)))];exact ⟨_,rfl,up,rfl,rfl,rfl⟩
  | false =>
   have hr:¬(e.kind=1∨e.kind=2∨e.kind=14∨e.kind=15):=by have:=Gr rfl;omega
   simp only[hr,zbw,zaz];cases hs:aC su e.sub with
   | none=>simp only[Option.isSome_none,zaz,zbw];exact ⟨_,rfl,up,rfl,rfl,rfl⟩
   | some s =>
    simp only[Option.isSome_some,zby,zcj];have hb:=h3 _ _ hs;obtain ⟨o',ho⟩:=RY s e op ad ac su ev ow li (by omega) (by omega);rw[ho,zac];have hc:=QB s e;refine ⟨_,rfl,⟨hu1,U7,λk s' wS=>?_,hu4,yD _ _ h5⟩,rfl,rfl,rfl⟩;simp only at wS;rw[dV] at wS;split at wS
    ·cases wS;omega
    ·exact hu3 k s' wS
 split
 ·rename_i QC;refine hj _ (λ_=>.inl (by simpa using QC)) (λk=>?_);rw[QC] at k;cases k
 ·rename_i QC;have k14':¬e.kind=14:=by simpa using QC
  refine hj _ (λk=>.inr (by simpa using k)) (λk=>?_);have:¬e.kind=15:=by simpa using k
  omega
def w0:W7:=([],[],[],[],[],[],[])
theorem wb0:WB 0 w0:=⟨by simp [w0],by simp [w0],λk s h=>by simp [w0,aC] at h,λk=>by simp [w0,aC],by simp [w0]⟩
def NJ (t:Int):List Event->W7->Option W7
 | [],w=>some w
 | e::l,w=>if e.at_<=t then (apO e w).bind (NJ t l) else NJ t l w
theorem aae (bS:O Event) (t:Int) (n:Nat) (w:W7) (h:WB n w) (hl:n+bS.length<=10000) :
  ji bS t w.1 w.2.1 w.2.2.1 w.2.2.2.1 w.2.2.2.2.1 w.2.2.2.2.2.1 w.2.2.2.2.2.2=NJ t bS w:=by
 unfold ji;refine bm bS (λs:Int×W7=>s.1) (λs r=>NJ t r s.2) (λs r=>0<=s.1/\∃ n,WB n s.2/\n+r.length<=10000) (by omega) ?_ ?_ (s:=(0,w)) rfl ⟨by simp,n,h,hl⟩
 ·rintro ⟨i,w⟩ ⟨h1,_⟩ h2;simp only at h1 h2;refine ⟨w,?_,rfl⟩;unfold lh;rw[zaa (by simp only[zak];omega)]
 ·rintro ⟨i,w⟩ e r ⟨h1,n,hb,h2⟩ h3 h4 h5 h6;simp only at h1 h2 h3 h4 h5 h6 hb;rw[zad] at h2;unfold lh;simp only;rw[zab (by simpa using h4),af ⟨h3,h4⟩,h5];by_cases ha:e.at_<=t
  ·obtain ⟨w',hw,mc,_⟩:=Lg n e w hb (by omega);have hr:j7 e w.1 w.2.1 w.2.2.1 w.2.2.2.1 w.2.2.2.2.1 w.2.2.2.2.2.1 w.2.2.2.2.2.2=some w':=by
    unfold j7;have:fC e w.1 w.2.1 w.2.2.1 w.2.2.2.1 w.2.2.2.2.1 w.2.2.2.2.2.1 w.2.2.2.2.2.2=some w':=hw;rw[this];rfl
   rw[zab (by simpa using ha),hr,zac,af ⟨by omega,by omega⟩];refine .inr ⟨(i+1,w'),rfl,⟨by simp only;omega,n+1,mc,by omega⟩,rfl,?_⟩;simp only;rw[NJ,zab ha,hw];rfl
  ·rw[zaa (by simpa using ha),af ⟨by omega,by omega⟩];refine .inr ⟨(i+1,w),rfl,⟨by simp only;omega,n,hb,by omega⟩,rfl,?_⟩;simp only;rw[NJ,zaa ha]
theorem Lh (t:Int):∀ (bS:O Event) (n:Nat) (w:W7),WB n w->n+bS.length<=10000->∃ w',NJ t bS w=some w'/\WB (n+bS.length) w'
 | [],n,w,h,_=>⟨w,rfl,h⟩
 | e::l,n,w,h,hl=>by
  rw[zad] at hl;unfold NJ;split
  ·obtain ⟨w',hw,mc,_⟩:=Lg n e w h (by omega);obtain ⟨w2,h1,h2⟩:=Lh t l (n+1) w' mc (by omega);refine ⟨w2,by rw[hw];exact h1,?_⟩;rw[zad,show n+(l.length+1)=n+1+l.length from by omega];exact h2
  ·obtain ⟨w2,h1,h2⟩:=Lh t l (n+1) w h.up (by omega);refine ⟨w2,h1,?_⟩;rw[zad,show n+(l.length+1)=n+1+l.length from by omega];exact h2
def kr (w:W7):O Sub:=w.2.1.filterMap (aC w.2.2.2.1)
def ofF (su:List (Int×Sub)):List Int->List (Int×List Int)->List (Int×List Int)
 | [],o=>o
 | k::t,o=>match aC su k with
  | none=>ofF su t o
  | some s=>ofF su t (dm o s.az ((aC o s.az).getD []++[k]))
theorem QF (op:O Int) (ac:O (Int×aq)) (L:O Sub) (o:O (Int×O Int)) (hl:op.length<=10000):∃ a,db op ac L o=some ⟨a,L⟩:=by
 unfold db
 let f:Int->aq:=λk=>⟨((aC ac k).getD (⟨0,0,0,false,false,([]:O Int)⟩:aq)).id,((aC ac k).getD (⟨0,0,0,false,false,([]:O Int)⟩:aq)).since,((aC ac k).getD (⟨0,0,0,false,false,([]:O Int)⟩:aq)).anchor,((aC ac k).getD (⟨0,0,0,false,false,([]:O Int)⟩:aq)).gJ,((aC ac k).getD (⟨0,0,0,false,false,([]:O Int)⟩:aq)).closed,(aC o k).getD ([]:O Int)⟩
 refine ⟨op.map f,?_⟩;have:=bm (step:=λs:Int×O aq=>ey op ac L o s.1 s.2) op (λs=>s.1) (λs r=>some (⟨s.2++r.map f,L⟩:cD)) (λs r=>0<=s.1/\(s.2.length:Int)<=s.1/\s.1<=(op.length:Int)) (by omega) ?_ ?_ (s:=(0,[])) rfl (by simp)
 ·rw[this];simp
 ·rintro ⟨i,l⟩ ⟨h1,h2,h3⟩ h4;simp only at h1 h2 h3 h4;refine ⟨⟨l,L⟩,?_,by simp⟩;unfold ey;rw[zaa (by simp only[zak];omega)]
 ·rintro ⟨i,l⟩ k r ⟨h1,h2,h3⟩ h4 h5 h6 h7;simp only at h1 h2 h3 h4 h5 h6 h7;refine .inr ⟨(i+1,l++[f k]),?_,⟨by simp only;omega,by simp only[zah,zal];omega,by simp only;omega⟩,rfl,by simp⟩;unfold ey;rw[zab (by simpa using h5),af ⟨h4,h5⟩,af (by simp only[zal];omega),af ⟨by omega,by omega⟩,h6]
theorem NK (n:Nat) (w:W7) (h:WB n w) (hn:n<=10000):∃ a,fi w.1 w.2.1 w.2.2.1 w.2.2.2.1 w.2.2.2.2.1 w.2.2.2.2.2.1 w.2.2.2.2.2.2=some ⟨a,kr w⟩:=by
 obtain ⟨op,ad,ac,su,ev,ow,li⟩:=w;have h1:=h.opened;have h2:=h.added;simp only at h1 h2;unfold fi kr;simp only;obtain ⟨a,ha⟩:=QF op ac (ad.filterMap (aC su)) (ofF su ad []) (by omega);refine ⟨a,?_⟩;have:=bm (step:=λs:Int×O Sub×O (Int×O Int)=>ez op ad ac su s.1 s.2.1 s.2.2) ad (λs=>s.1) (λs r=>db op ac (s.2.1++r.filterMap (aC su)) (ofF su r s.2.2))
  (λs r=>0<=s.1/\(s.2.1.length:Int)<=s.1/\s.1<=(ad.length:Int)/\∀ k,(((aC s.2.2 k).getD []).length:Int)<=s.1) (by omega) ?_ ?_ (s:=(0,[],[])) rfl ⟨by simp,by simp,by simp,λk=>by simp [aC]⟩
 ·rw[this];simpa using ha
 ·rintro ⟨i,l,o⟩ ⟨h3,h4,h5,h6⟩ h7;simp only at h3 h4 h5 h6 h7;obtain ⟨a,ha⟩:=QF op ac l o (by omega);refine ⟨⟨a,l⟩,?_,by simpa [ofF] using ha⟩;unfold ez;rw[zaa (by simp only[zak];omega),ha];rfl
 ·rintro ⟨i,l,o⟩ k r ⟨h3,h4,h5,h6⟩ h7 h8 h9 K1;simp only at h3 h4 h5 h6 h7 h8 h9 K1;unfold ez;simp only;rw[zab (by simpa using h8),af ⟨h7,h8⟩,h9];cases hs:aC su k with
  | none =>
   refine .inr ⟨(i+1,l,o),?_,⟨by simp only;omega,by simp only;omega,by simp only;omega,λk=>by have:=h6 k;simp only;omega⟩,rfl,?_⟩
   ·rw[zab (by simp),af ⟨by omega,by omega⟩]
   ·simp only[zef,hs,ofF]
  | some s =>
   have h6':=h6 s.az;refine .inr ⟨(i+1,l++[s],dm o s.az ((aC o s.az).getD []++[k])),?_,⟨by simp only;omega,by simp only[zah,zal];omega,by simp only;omega,λk'=>?_⟩,rfl,?_⟩
   ·rw[zaa (by simp)];simp only[zcj];rw[af (by simp only[zal];omega),af (by simp only[zal];omega),af ⟨by omega,by omega⟩]
   ·simp only;rw[dV];split
    ·simp only[zcj,zah,zal];omega
    ·have:=h6 k';omega
   ·simp only[zef,hs,ofF,zar,zbr]
theorem WC (bS:O Event) (t:Int) (hl:bS.length<=5000):∃ w a,NJ t bS w0=some w/\WB bS.length w/\eM bS t=some ⟨a,kr w⟩:=by
 obtain ⟨w,h1,h2⟩:=Lh t bS 0 w0 wb0 (by omega);rw[zbu] at h2;obtain ⟨a,ha⟩:=NK _ w h2 (by omega);refine ⟨w,a,h1,h2,?_⟩;unfold eM pn qw;have:=aae bS t 0 w0 wb0 (by omega);simp only[zac];rw[show ji bS t ([]:O Int) ([]:O Int) ([]:O (Int×aq)) ([]:O (Int×Sub)) ([]:O (Int×Bool)) ([]:O ((O uA)×Int)) ([]:O (Int×Int))=NJ t bS w0 from this,h1,zac,ha];rfl
def owF:List Sub->List ((List uA)×Int)->List ((List uA)×Int)
 | [],o=>o
 | s::l,o=>owF l (s.numbers.foldl (λo n=>dm o n s.id) o)
theorem Uw (bS:O Event) (t:Int) (c:cD) (h:eM bS t=some c) (hl:c.bp.length<=10000) (hn:∀ s,s∈c.bp->s.numbers.length<=10000):j8 bS t=some (owF c.bp []):=by
 unfold j8;rw[h,zac];refine bm (step:=λs:Int×O ((O uA)×Int)=>iC c s.1 s.2) c.bp (λs=>s.1) (λs r=>some (owF r s.2)) (λs r=>0<=s.1/\∀ x,x∈r->x.numbers.length<=10000) (by omega) ?_ ?_ (s:=(0,[])) rfl ⟨by simp,hn⟩
 ·rintro ⟨i,o⟩ ⟨h1,_⟩ h2;simp only at h1 h2;refine ⟨o,?_,rfl⟩;unfold iC;rw[zaa (by simp only[zak];omega)]
 ·rintro ⟨i,o⟩ x r ⟨h1,h2⟩ h3 h4 h5 h6;simp only at h1 h2 h3 h4 h5 h6;refine .inr ⟨(i+1,x.numbers.foldl (λo n=>dm o n x.id) o),?_,⟨by simp only;omega,λy hy=>h2 y (zai _ hy)⟩,rfl,rfl⟩
  unfold iC;rw[zab (by simpa using h4),af ⟨h3,h4⟩];have hx:=h2 x (zaj ..);refine bm (step:=λs:Int×O ((O uA)×Int)=>iB c i s.1 s.2) x.numbers (λs=>s.1) (λs r=>some (.inl (i+1,r.foldl (λo n=>dm o n x.id) s.2))) (λs r=>0<=s.1) (by omega) ?_ ?_ (s:=(0,o)) rfl (by simp)
  ·rintro ⟨j,o⟩ h7 h8;simp only at h7 h8;refine ⟨_,?_,rfl⟩;unfold iB;rw[h5,zaa (by simp only[zak];omega),af ⟨by omega,by omega⟩];rfl
  ·rintro ⟨j,o⟩ n q h7 h8 h9 K1 h11;simp only at h7 h8 h9 K1 h11;refine .inr ⟨(j+1,dm o n x.id),?_,by simp only;omega,rfl,rfl⟩;unfold iB;rw[h5,zab (by simpa using h9),af ⟨h8,h9⟩,af ⟨by omega,by omega⟩,K1]
def NL (id:Int):List Sub->Sub×Bool
 | []=>(wm,false)
 | s::l=>if s.id=id then (s,true) else NL id l
theorem p_Sub (bS:O Event) (id t:Int) (c:cD) (h:eM bS t=some c) (hl:c.bp.length<=10000):oG bS id t=some (NL id c.bp):=by
 unfold oG;rw[h,zac];refine bm (step:=λs:Int=>lj id c s) c.bp (λs=>s) (λs r=>some (NL id r)) (λs r=>0<=s) (by omega) ?_ ?_ (s:=0) rfl (by simp)
 ·rintro i h1 h2;refine ⟨_,?_,rfl⟩;unfold lj;rw[zaa (by simp only[zak];omega)];rfl
 ·rintro i x r h1 h2 h3 h4 h5;unfold lj;rw[zab (by simpa using h3),af ⟨h2,h3⟩,h4];by_cases hx:x.id=id
  ·rw[zab (by simpa using hx)];exact .inl ⟨_,rfl,by rw[NL,zab hx]⟩
  ·rw[zaa (by simpa using hx),af ⟨by omega,by omega⟩];exact .inr ⟨_,rfl,by omega,rfl,by rw[NL,zaa hx]⟩
def A5 (r:aa):O uA:=if r.bL=true then r.b else r.a
def Li (L:List Sub) (n:List uA):Sub×Bool:=match aC (owF L []) n with
 | none=>(wm,false)
 | some id=>NL id L
theorem WD (bS:O Event) (r:aa) (c:cD) (h:eM bS r.start=some c) (hl:c.bp.length<=10000) (hn:∀ s,s∈c.bp->s.numbers.length<=10000) :
  jB (⟨(⟨r⟩:dQ),bS⟩:lF)=some (Li c.bp (A5 r)):=by
 unfold jB;have hnum:gS (⟨r⟩:dQ)=some (A5 r):=by
  unfold gS A5;split <;> rfl
 simp only;rw[hnum,zac];unfold nU Li;rw[Uw bS _ c h hl hn,zac,zac];cases ha:aC (owF c.bp []) (A5 r) with
 | none=>simp
 | some id =>
  simp only[Option.isSome_some,zcj,zci,zaz,zbw];rw[p_Sub bS id _ c h hl,zac]
def H3:aA:=⟨0,0,0,0,([]:O uA),([]:O uA),0,0,0,false,0,0⟩
def FM (L:O Sub) (r:aa) (id:Int):aA×Int :=
 if da r≠0 then (H3,da r)
 else if r.part≠0 then (H3,8)
 else if (Li L (A5 r)).2=false then (H3,11)
 else if (Li L (A5 r)).1.bY=true/\r.bL=false then (H3,16)
 else (⟨id,r.kind,(Li L (A5 r)).1.az,(Li L (A5 r)).1.id,r.a,r.b,r.start,r.cX,r.dh,r.bL,r.source,r.aF⟩,0)
theorem WE (bS:O Event) (r:aa) (id:Int) (c:cD) (h:eM bS r.start=some c) (hl:c.bp.length<=10000) (hn:∀ s,s∈c.bp->s.numbers.length<=10000) (hs:Sm r) :
  gU bS r id=some (FM c.bp r id):=by
 unfold gU FM;rw[Ax r hs,zac,WD bS r c h hl hn];by_cases h1:da r=0
 ·rw[zaa (show ¬((da r != 0)=true) by simp [h1]),zaa (show ¬(da r≠0) from λk=>k h1)];by_cases h2:r.part=0
  ·rw[zaa (show ¬((r.part != 0)=true) by simp [h2]),zaa (show ¬(r.part≠0) from λk=>k h2),zac];generalize Li c.bp (A5 r)=y;obtain ⟨s,ok⟩:=y;cases ok with
   | false=>simp [H3]
   | true =>
    simp only[zci,zaz,zbw];cases hss:s.bY <;> cases hi:r.bL <;> simp [H3,kv,hi]
  ·rw[zab (show (r.part != 0)=true by simpa using h2),zab (show r.part≠0 from h2)];rfl
 ·rw[zab (show (da r != 0)=true by simpa using h1),zab (show da r≠0 from h1)];rfl
abbrev Bk:=aj
def vM {α:Type} (p:α->Bool):List α->Int->Int
 | [],_=>-1
 | a::l,i=>if p a=true then i else vM p l (i+1)
theorem uY {α:Type} [Inhabited α] (p:α->Bool):∀ (l:O α) (i:Int),0<=i->(vM p l i=-1/\∀ a,a∈l->p a=false)∨(i<=vM p l i/\vM p l i<i+l.length/\p (nth l (vM p l i-i).toNat)=true)
 | [],i,_=>.inl ⟨rfl,λa h=>by simp at h⟩
 | a::l,i,hi=>by
  unfold vM;by_cases h:p a=true
  ·rw[zab h];refine .inr ⟨by omega,by rw[zad];omega,?_⟩;rw[show (i-i).toNat=0 from by omega,fX];exact h
  ·rw[zaa h];rcases uY p l (i+1) (by omega) with ⟨h1,h2⟩|⟨h1,h2,h3⟩
   ·exact .inl ⟨h1,λb hb=>by
     rcases zan.1 hb with rfl|hb
     ·simpa using h
     ·exact h2 b hb⟩
   ·refine .inr ⟨by omega,by rw[zad];omega,?_⟩;rw[show (vM p l (i+1) - i).toNat=(vM p l (i+1) - (i+1)).toNat+1 from by omega,fx];exact h3
theorem EG (b:Bk) (n:Int) (hl:b.aO.length<=100000):lI b n=some (vM (λa=>a.id==n) b.aO 0):=by
 unfold lI;refine bm (step:=λs:Int=>mj b n s) b.aO (λs=>s) (λs r=>some (vM (λa=>a.id==n) r s)) (λs r=>0<=s) (by omega) ?_ ?_ (s:=0) rfl (by simp)
 ·rintro i h1 h2;refine ⟨_,?_,rfl⟩;unfold mj;rw[zaa (by simp only[zak];omega)];rfl
 ·rintro i x r h1 h2 h3 h4 h5;unfold mj;rw[zab (by simpa using h3),af ⟨h2,h3⟩,h4];by_cases hx:(x.id==n)=true
  ·rw[zab hx];exact .inl ⟨_,rfl,by rw[vM,zab hx]⟩
  ·rw[zaa hx,af ⟨by omega,by omega⟩];exact .inr ⟨_,rfl,by omega,rfl,by rw[vM,zaa hx]⟩
def mH (b:Bk) (n:Int):Int:=vM (λa:Sub=>a.id==n) b.bp 0
theorem H4 (b:Bk) (n:Int) (hl:b.bp.length<=100000):ph b n=some (mH b n):=by
 unfold ph;refine bm (step:=λs:Int=>rh b n s) b.bp (λs=>s) (λs r=>some (vM (λa:Sub=>a.id==n) r s)) (λs r=>0<=s) (by omega) ?_ ?_ (s:=0) rfl (by simp)
 ·rintro i h1 h2;refine ⟨_,?_,rfl⟩;unfold rh;rw[zaa (by simp only[zak];omega)];rfl
 ·rintro i x r h1 h2 h3 h4 h5;unfold rh;rw[zab (by simpa using h3),af ⟨h2,h3⟩,h4];by_cases hx:(x.id==n)=true
  ·rw[zab hx];exact .inl ⟨_,rfl,by rw[vM,zab hx]⟩
  ·rw[zaa hx,af ⟨by omega,by omega⟩];exact .inr ⟨_,rfl,by omega,rfl,by rw[vM,zaa hx]⟩
theorem Gc (b:Bk) (n:Int) (hl:b.ended.length<=100000):mN b n=some (decide (n∈b.ended)):=by
 unfold mN;refine bm (step:=λs:Int=>ov b n s) b.ended (λs=>s) (λs r=>some (decide (n∈r))) (λs r=>0<=s) (by omega) ?_ ?_ (s:=0) rfl (by simp)
 ·rintro i h1 h2;refine ⟨_,?_,rfl⟩;unfold ov;rw[zaa (by simp only[zak];omega)];simp
 ·rintro i x r h1 h2 h3 h4 h5;unfold ov;rw[zab (by simpa using h3),af ⟨h2,h3⟩,h4];by_cases hx:x=n
  ·rw[zab (by simpa using hx)];exact .inl ⟨_,rfl,by simp [hx]⟩
  ·rw[zaa (by simpa using hx),af ⟨by omega,by omega⟩];exact .inr ⟨_,rfl,by omega,rfl,by simp [zcl hx]⟩
theorem Lj (l:O (O uA)) (n:O uA) (hl:l.length<=100000):pj l n=some (decide (n∈l)):=by
 unfold pj;refine bm (step:=λs:Int=>ri l n s) l (λs=>s) (λs r=>some (decide (n∈r))) (λs r=>0<=s) (by omega) ?_ ?_ (s:=0) rfl (by simp)
 ·rintro i h1 h2;refine ⟨_,?_,rfl⟩;unfold ri;rw[zaa (by simp only[zak];omega)];simp
 ·rintro i x r h1 h2 h3 h4 h5;unfold ri;rw[zab (by simpa using h3),af ⟨h2,h3⟩,h4];by_cases hx:x=n
  ·rw[zab (by simpa using hx)];exact .inl ⟨_,rfl,by simp [hx]⟩
  ·rw[zaa (by simpa using hx),af ⟨by omega,by omega⟩];exact .inr ⟨_,rfl,by omega,rfl,by simp [zcl hx]⟩
structure BB (n:Nat) (b:Bk):Prop where
 Pn:b.aO.length<=n
 bp:b.bp.length<=n
 ended:b.ended.length<=n
 nums:∀ s,s∈b.bp->s.numbers.length<=n/\s.cJ.length<=n
theorem BB.up {n:Nat} {b:Bk} (h:BB n b):BB (n+1) b:=⟨by have:=h.Pn;omega,by have:=h.bp;omega,by have:=h.ended;omega,λs hs=>by have:=h.nums s hs;omega⟩
theorem WG (b:Bk) (x:O uA) (n:Nat) (h:BB n b) (hn:n<=10000):tf b x=some (b.bp.any λs=>decide (x∈s.numbers)):=by
 unfold tf;have hl:=h.bp;refine bm (step:=λs:Int=>ox b x s) b.bp (λs=>s) (λs r=>some (r.any λs=>decide (x∈s.numbers))) (λs r=>0<=s/\∀ y,y∈r->y.numbers.length<=n) (by omega) ?_ ?_ (s:=0) rfl ⟨by simp,λy hy=>(h.nums y hy).1⟩
 ·rintro i ⟨h1,_⟩ h2;refine ⟨_,?_,rfl⟩;unfold ox;rw[zaa (by simp only[zak];omega)];simp
 ·rintro i y r ⟨h1,h2⟩ h3 h4 h5 h6;have hy:=h2 y (zaj ..);unfold ox;rw[zab (by simpa using h4),af ⟨h3,h4⟩,h5,Lj _ _ (by omega),zac];by_cases hx:x∈y.numbers
  ·rw[zab (by simpa using hx)];exact .inl ⟨_,rfl,by simp [hx]⟩
  ·rw[zaa (by simpa using hx),af ⟨by omega,by omega⟩];exact .inr ⟨_,rfl,⟨by omega,λz hz=>h2 z (zai _ hz)⟩,rfl,by simp [hx]⟩
theorem p_busy (b:Bk) (k:Int) (n:Nat) (h:BB n b) (hn:n<=10000):∃ y,vj b k=some y:=by
 unfold vj;have hl:=h.bp;have he:=h.ended;refine ⟨_,bm (step:=λs:Int=>lJ b k s) b.bp (λs=>s) (λs r=>some (r.any λs=>(s.az==k) && !decide (s.id∈b.ended))) (λs r=>0<=s) (by omega) ?_ ?_ (s:=0) rfl (by simp)⟩
 ·rintro i h1 h2;refine ⟨_,?_,rfl⟩;unfold lJ;rw[zaa (by simp only[zak];omega)];simp
 ·rintro i y r h1 h3 h4 h5 h6;unfold lJ;rw[zab (by simpa using h4),af ⟨h3,h4⟩,af (λ_=>⟨h3,h4⟩),h5,Gc _ _ (by omega)];by_cases ha:(y.az==k)=true
  ·simp only[ha,cG,zby,zac,zcu];by_cases hx:y.id∈b.ended
   ·rw[zaa (by simpa using hx),af ⟨by omega,by omega⟩];exact .inr ⟨_,rfl,by omega,rfl,by simp [ha,hx]⟩
   ·rw[zab (by simpa using hx)];exact .inl ⟨_,rfl,by simp [ha,hx]⟩
  ·have Su:(y.az==k)=false:=by simpa using ha
   simp only[Su,cG,zaz,zbw,zac,zdg];rw[af ⟨by omega,by omega⟩];exact .inr ⟨_,rfl,by omega,rfl,by simp [Su]⟩
def pI (k:Int):O Bool :=
 if k=1 then [true,false,false,true,true] else if k=2 then [true,false,false,false,false] else if k=3 then [true,true,false,true,false]
 else if k=5∨k=6 then [false,true,true,false,false] else if k=7∨k=8∨k=9 then [false,true,false,true,false] else if k=14∨k=15 then [true,false,false,false,true] else [false,true,false,false,false]
theorem Ux (k:Int):si k=some (pI k):=by
 unfold si pI;have h3:∀ b:Bool,(b=true->k=14∨k=15)->(b=false->¬(k=14∨k=15))->lG b=some (if k=14∨k=15 then [true,false,false,false,true] else [false,true,false,false,false]):=λb h1 h2=>by
  unfold lG;cases b with
  | true=>rw[zab rfl,zab (h1 rfl)]
  | false=>rw[zaa (by simp),zaa (h2 rfl)]
 have h2:∀ b:Bool,(b=true->k=7∨k=8∨k=9)->(b=false->¬(k=7∨k=8∨k=9))->jI k b=some (if k=7∨k=8∨k=9 then [false,true,false,true,false] else if k=14∨k=15 then [true,false,false,false,true] else [false,true,false,false,false]):=λb h1 h2=>by
  unfold jI;cases b with
  | true=>rw[zab rfl,zab (h1 rfl)]
  | false =>
   rw[zaa (by simp),zaa (h2 rfl)];by_cases QC:k=14
   ·rw[zab (by simpa using QC)];exact h3 _ (λ_=>.inl QC) (λh=>by simp [QC] at h)
   ·rw[zaa (by simpa using QC)];exact h3 _ (λh=>.inr (by simpa using h)) (λh=>by rw[zer] at h;omega)
 have h1:∀ b:Bool,(b=true->k=5∨k=6)->(b=false->¬(k=5∨k=6))->lH k b=some (if k=5∨k=6 then [false,true,true,false,false] else if k=7∨k=8∨k=9 then [false,true,false,true,false] else if k=14∨k=15 then [true,false,false,false,true] else [false,true,false,false,false]):=λb h1 EM=>by
  unfold lH;cases b with
  | true=>rw[zab rfl,zab (h1 rfl)]
  | false =>
   rw[zaa (by simp),zaa (EM rfl)];by_cases k7:k=7
   ·rw[zab (by simpa using k7)];exact h2 _ (λ_=>.inl k7) (λh=>by simp [k7] at h)
   rw[zaa (by simpa using k7)];by_cases k8:k=8
   ·rw[zab (by simpa using k8)];exact h2 _ (λ_=>.inr (.inl k8)) (λh=>by simp [k8] at h)
   rw[zaa (by simpa using k8)];exact h2 _ (λh=>.inr (.inr (by simpa using h))) (λh=>by rw[zer] at h;omega)
 by_cases k1:k=1
 ·rw[zab (by simpa using k1),zab k1]
 rw[zaa (by simpa using k1),zaa k1];by_cases k2:k=2
 ·rw[zab (by simpa using k2),zab k2]
 rw[zaa (by simpa using k2),zaa k2];by_cases k3:k=3
 ·rw[zab (by simpa using k3),zab k3]
 rw[zaa (by simpa using k3),zaa k3];by_cases k5:k=5
 ·rw[zab (by simpa using k5)];exact h1 _ (λ_=>.inl k5) (λh=>by simp [k5] at h)
 rw[zaa (by simpa using k5)];exact h1 _ (λh=>.inr (by simpa using h)) (λh=>by rw[zer] at h;omega)
theorem p_Name (s:O uA) (hl:s.length<=100000):∃ y,vh s=some y:=by
 unfold vh;by_cases h:(decide ((s.length:Int)<1) || decide ((s.length:Int) > 24))=true
 ·rw[af (by simp [h]),af (by simp [h]),zab (by simp [h])];exact ⟨_,rfl⟩
 ·have h':¬((s.length:Int)<1):=by simp at h;omega
  rw[af (λ_=>⟨by omega,by omega⟩),af (λ_=>⟨by omega,by omega⟩)];split
  ·exact ⟨_,rfl⟩
  ·refine ⟨_,bm (step:=λi:Int=>p8 s i) s (λi=>i) (λi r=>some (r.all λc=>!((((decide (c<97)) || (decide (c > 122))) && ((decide (c<48)) || (decide (c > 57)))) && (c != 45)))) (λi r=>0<=i) (by omega) ?_ ?_ (s:=0) rfl (by simp)⟩
   ·rintro i h1 h2;refine ⟨_,?_,rfl⟩;unfold p8;rw[zaa (by simp only[zak];omega)];simp
   ·rintro i c r h1 h2 h3 h4 h5;unfold p8;rw[zab (by simpa using h3),af ⟨h2,h3⟩,af (λ_=>⟨h2,h3⟩),af (λ_=>⟨h2,h3⟩),af (λ_=>⟨h2,h3⟩),af (λ_=>⟨h2,h3⟩),h4];split
    ·rename_i hc;exact .inl ⟨_,rfl,by simp only[zet,hc,zci,zdg]⟩
    ·rename_i hc;rw[af ⟨by omega,by omega⟩];exact .inr ⟨_,rfl,by omega,rfl,by rw[zet,Bool.not_eq_true _ |>.mp hc];rfl⟩
structure Po (e:Event) (last:Int):Prop where
 kind:1<=e.kind/\e.kind<=15
 at_:last<=e.at_
 sub:¬(e.kind=1∨e.kind=2∨e.kind=14∨e.kind=15)->1<=e.sub/\e.sub<=9999
 num:e.kind=5->e.number≠[]
 acct:e.kind=3->1<=e.az/\e.az<=9999
theorem WH (e:Event):∃ y,te e=some y:=by
 unfold te;split
 ·exact ⟨_,rfl⟩
 ·split <;> exact ⟨_,rfl⟩
theorem yE {α:Type} [Inhabited α] (b:Bool) (x:α):∃ y,cG b (some x)=some y/\(b=true->y=x):=⟨_,kp,λh=>by rw[zab h]⟩
theorem p_form (e:Event) (last:Int) (h1:e.name.length<=1000) (h2:e.number.length<=1000):∃ y,vi e last=some y/\(y=0->Po e last):=by
 obtain ⟨nb,hnb⟩:=p_Name e.name (by omega);obtain ⟨vb,hvb⟩:=WH e;unfold vi;rw[Ux,hnb,Hz _ (by omega),hvb];unfold zF;simp only[zac];by_cases c1:(decide (e.kind<1) || decide (e.kind > 15))=true
 ·rw[zab c1];exact ⟨_,rfl,by omega⟩
 rw[zaa c1];by_cases c2:(decide (e.at_<0) || decide (e.at_>=12622780800))=true
 ·rw[zab c2];exact ⟨_,rfl,by omega⟩
 rw[zaa c2];by_cases c3:decide (e.at_<last)=true
 ·rw[zab c3];exact ⟨_,rfl,by omega⟩
 rw[zaa c3];have k1:1<=e.kind/\e.kind<=15:=by simp at c1;omega
 have k2:last<=e.at_:=by simpa using c3
 split
 ·exact ⟨_,rfl,by omega⟩
 obtain ⟨y2,fY,q2⟩:=yE (nth (pI e.kind) 0) (decide (e.az>=1) && decide (e.az<=9999));rw[fY,zac];obtain ⟨y3,kz,q3⟩:=yE ((!((nth (pI e.kind) 0) && (!y2))) && (nth (pI e.kind) 1)) (decide (e.sub>=1) && decide (e.sub<=9999));rw[kz,zac];by_cases c5:((nth (pI e.kind) 0 && !y2) || (nth (pI e.kind) 1 && !y3))=true
 ·rw[zab c5];exact ⟨_,rfl,by omega⟩
 rw[zaa c5];obtain ⟨y4,pS,q4⟩:=yE (nth (pI e.kind) 3) nb;rw[pS,zac];split
 ·exact ⟨_,rfl,by omega⟩
 obtain ⟨y5,xn,q5⟩:=yE (nth (pI e.kind) 2) (qK e.number);rw[xn,zac];by_cases c7:(nth (pI e.kind) 2 && !y5)=true
 ·rw[zab c7];exact ⟨_,rfl,by omega⟩
 rw[zaa c7];obtain ⟨y6,C0,q6⟩:=yE (nth (pI e.kind) 4) vb;rw[C0,zac];have fin:Po e last:=by
  refine ⟨k1,k2,λhk=>?_,λhk=>?_,λhk=>?_⟩
  ·have hu:nth (pI e.kind) 1=true:=by
    unfold pI;rw[zaa (by omega),zaa (by omega)];split
    ·rfl
    split
    ·rfl
    split
    ·rfl
    rw[zaa (by omega)];rfl
   have c5a:(nth (pI e.kind) 0 && !y2)=false:=by
    cases hh:(nth (pI e.kind) 0 && !y2) with
    | false=>rfl
    | true=>rw[hh] at c5;simp at c5
   rw[c5a,hu] at q3 c5;have y3t:y3=true:=by cases y3 <;> simp_all
   have:=q3 rfl;rw[y3t] at this;simp at this;omega
  ·have hu:nth (pI e.kind) 2=true:=by
    unfold pI;rw[zaa (by omega),zaa (by omega),zaa (by omega),zab (.inl hk)];rfl
   rw[hu] at c7 q5;have y5t:y5=true:=by cases y5 <;> simp_all
   have hv:=q5 rfl;rw[y5t] at hv;intro hn;rw[hn] at hv;simp [qK] at hv
  ·have hu:nth (pI e.kind) 0=true:=by
    unfold pI;simp [hk,nth]
   rw[hu] at q2 c5;have y2t:y2=true:=by
    cases hh:y2 with
    | true=>rfl
    | false=>rw[hh] at c5;exact absurd rfl c5
   have:=q2 rfl;rw[y2t] at this;simp at this;omega
 split
 ·exact ⟨_,rfl,by omega⟩
 ·exact ⟨_,rfl,λ_=>fin⟩
def H5 (b:Bk) (n:Int):Int:=vM (λa:aq=>a.id==n) b.aO 0
theorem NM (b:Bk) (e:Event) (n:Nat) (h:BB n b) (hn:n<=10000):∃ y,nm b e=some y/\(y=0->(e.kind=3->mH b e.sub=-1)/\(e.kind≠1->0<=H5 b e.az/\H5 b e.az<(b.aO.length:Int))):=by
 have ha:=h.Pn;have hs:=h.bp;obtain ⟨by_,F1⟩:=p_busy b e.az n h hn;unfold nm;rw[EG b _ (by omega),zac,H4 b _ (by omega),F1];rw[show vM (λa:aq=>a.id==e.az) b.aO 0=H5 b e.az from rfl];have sp:(H5 b e.az=-1)∨(0<=H5 b e.az/\H5 b e.az<(b.aO.length:Int)):=by
  rcases uY (λa:aq=>a.id==e.az) b.aO 0 (by omega) with ⟨q,_⟩|⟨q1,q2,_⟩
  ·exact .inl q
  ·exact .inr ⟨q1,by unfold H5;omega⟩
 have sq:mH b e.sub=-1∨0<=mH b e.sub:=by
  rcases uY (λa:Sub=>a.id==e.sub) b.bp 0 (by omega) with ⟨q,_⟩|⟨q1,q2,_⟩
  ·exact .inl q
  ·exact .inr q1
 by_cases k1:e.kind=1
 ·rw[zab (by simpa using k1)];split
  ·exact ⟨_,rfl,by omega⟩
  ·exact ⟨_,rfl,λ_=>⟨by omega,by omega⟩⟩
 rw[zaa (by simpa using k1)];by_cases k2:H5 b e.az<0
 ·rw[zab (by simpa using k2)];exact ⟨_,rfl,by omega⟩
 rw[zaa (by simpa using k2),af (by omega)];split
 ·exact ⟨_,rfl,by omega⟩
 obtain ⟨y2,fY,q2⟩:=yE (e.kind==3) (mH b e.sub);rw[fY,zac];by_cases c2:((e.kind==3) && decide (y2>=0))=true
 ·rw[zab c2];exact ⟨_,rfl,by omega⟩
 rw[zaa c2];obtain ⟨y3,kz,q3⟩:=yE (e.kind==2) by_;rw[kz,zac,af (by intro _;omega)];split
 ·exact ⟨_,rfl,by omega⟩
 refine ⟨_,rfl,λ_=>⟨λk3=>?_,λ_=>by omega⟩⟩;have e2:=q2 (by simpa using k3);rcases sq with q|q
 ·exact q
 ·exact absurd (by simp [k3,e2,q]) c2
theorem WI (b:Bk) (e:Event) (n:Nat) (h:BB n b) (hn:n<=10000):∃ y,tg b e=some y/\(y=0->(0<=mH b e.sub/\mH b e.sub<(b.bp.length:Int))/\e.sub ∉ b.ended/\(e.kind=5->∀ s,s∈b.bp->e.number ∉ s.numbers)):=by
 have hs:=h.bp;have he:=h.ended;unfold tg;rw[H4 b _ (by omega),zac];by_cases k1:mH b e.sub<0
 ·rw[zab (by simpa using k1)];exact ⟨_,rfl,by omega⟩
 rw[zaa (by simpa using k1),Gc b _ (by omega),zac];by_cases k2:e.sub∈b.ended
 ·rw[zab (by simpa using k2)];exact ⟨_,rfl,by omega⟩
 rw[zaa (by simpa using k2)];have sp:0<=mH b e.sub/\mH b e.sub<(b.bp.length:Int):=by
  rcases uY (λa:Sub=>a.id==e.sub) b.bp 0 (by omega) with ⟨q,_⟩|⟨q1,q2,_⟩
  ·unfold mH at k1;omega
  ·unfold mH;omega
 rw[af sp];have hm:=h.nums _ (kB (l:=b.bp) (k:=(mH b e.sub).toNat) (by omega));by_cases k5:e.kind=5
 ·rw[zab (by simpa using k5),WG b _ n h hn,zac];split
  ·exact ⟨_,rfl,by omega⟩
  ·rename_i c;refine ⟨_,rfl,λ_=>⟨sp,k2,λ_ s wS hx=>c ?_⟩⟩;rw[zfi];exact ⟨s,wS,by simpa using hx⟩
 rw[zaa (by simpa using k5)];have ok:∀ y:Int,∃ z,some y=some z/\(z=0->(0<=mH b e.sub/\mH b e.sub<(b.bp.length:Int))/\e.sub ∉ b.ended/\(e.kind=5->∀ s,s∈b.bp->e.number ∉ s.numbers)):=λy=>⟨y,rfl,λ_=>⟨sp,k2,λk=>absurd k k5⟩⟩
 rw[Lj _ _ (by omega),Lj _ _ (by omega)];simp only[zac];unfold mm ml
 repeat' split
 all_goals exact ok _
structure Gd (b:Bk) (e:Event) (last:Int):Prop where
 form:Po e last
 acc:e.kind=2->0<=H5 b e.az/\H5 b e.az<(b.aO.length:Int)
 add:e.kind=3->mH b e.sub=-1
 sub:¬(e.kind=1∨e.kind=2∨e.kind=3∨e.kind=14∨e.kind=15)->(0<=mH b e.sub/\mH b e.sub<(b.bp.length:Int))/\e.sub ∉ b.ended/\(e.kind=5->∀ s,s∈b.bp->e.number ∉ s.numbers)
theorem QG (b:Bk) (e:Event) (last:Int) (n:Nat) (h:BB n b) (hn:n<=10000) (h1:e.name.length<=1000) (h2:e.number.length<=1000):∃ y,qM b e last=some y/\(y=0->Gd b e last):=by
 obtain ⟨y1,e1,q1⟩:=p_form e last h1 h2;obtain ⟨y2,e2,q2⟩:=NM b e n h hn;obtain ⟨y3,e3,q3⟩:=WI b e n h hn;unfold qM;rw[e1,zac,Ux,zac,e2,e3];by_cases c1:y1=0
 ·rw[zaa (by simpa using c1)];have f:=q1 c1;by_cases c2:nth (pI e.kind) 0=true
  ·rw[zab c2];refine ⟨y2,rfl,λh0=>⟨f,λk=>(q2 h0).2 (by omega),λk=>(q2 h0).1 k,λk=>?_⟩⟩;exfalso;unfold pI at c2;rw[zaa (by omega),zaa (by omega),zaa (by omega)] at c2;split at c2
   ·simp [nth] at c2
   split at c2
   ·simp [nth] at c2
   rw[zaa (by omega)] at c2;simp [nth] at c2
  ·rw[zaa c2];have k0:¬(e.kind=1∨e.kind=2∨e.kind=3∨e.kind=14∨e.kind=15):=λk=>c2 (by
    unfold pI;rcases k with k|k|k|k|k <;> simp [k,nth])
   exact ⟨y3,rfl,λh0=>⟨f,λk=>absurd (.inr (.inl k)) k0,λk=>absurd (.inr (.inr (.inl k))) k0,λ_=>q3 h0⟩⟩
 ·rw[zab (by simpa using c1)];exact ⟨y1,rfl,λh0=>absurd h0 c1⟩
def LD (s:Sub) (e:Event):Sub:=if e.kind=4 then { s with numbers:=[],cJ:=[] } else QA s e
theorem Pp (s:Sub) (e:Event) (h1:s.numbers.length<=100000) (h2:s.cJ.length<=100000):p9 s e=some (LD s e):=by
 unfold p9 LD QA;by_cases k4:e.kind=4
 ·rw[zab (by simpa using k4),zab k4]
 rw[zaa (by simpa using k4),zaa k4];by_cases k5:e.kind=5
 ·rw[zab (by simpa using k5),Uu _ _ h1,zab k5];rfl
 rw[zaa (by simpa using k5),zaa k5];by_cases k6:e.kind=6
 ·rw[zab (by simpa using k6),JL _ _ h1,zab k6];rfl
 rw[zaa (by simpa using k6),zaa k6];by_cases k7:e.kind=7
 ·rw[zab (by simpa using k7),zab k7]
 rw[zaa (by simpa using k7),zaa k7];by_cases k8:e.kind=8
 ·rw[zab (by simpa using k8),Uu _ _ h2,zab k8];rfl
 rw[zaa (by simpa using k8),zaa k8];by_cases k9:e.kind=9
 ·rw[zab (by simpa using k9),JL _ _ h2,zab k9];rfl
 rw[zaa (by simpa using k9),zaa k9];by_cases Q6:e.kind=10
 ·rw[zab (by simpa using Q6),zab Q6]
 rw[zaa (by simpa using Q6),zaa Q6];by_cases Wy:e.kind=11
 ·rw[zab (by simpa using Wy),zab Wy]
 rw[zaa (by simpa using Wy),zaa Wy];by_cases Wz:e.kind=12
 ·rw[zab (by simpa using Wz),zab Wz]
 rw[zaa (by simpa using Wz),zaa Wz];by_cases WA:e.kind=13
 ·rw[zab (by simpa using WA),zab WA]
 rw[zaa (by simpa using WA),zaa WA]
theorem WJ (s:Sub) (e:Event):(LD s e).numbers.length<=s.numbers.length+1/\(LD s e).cJ.length<=s.cJ.length+1:=by
 unfold LD;split
 ·simp
 ·exact QB s e
def Uy (b:Bk) (e:Event):O Sub :=
 if e.kind=3 then b.bp++[Ci e]
 else if e.kind=1∨e.kind=2∨e.kind=14∨e.kind=15 then b.bp
 else b.bp.set (mH b e.sub).toNat (LD (nth b.bp (mH b e.sub).toNat) e)
def RZ (b:Bk) (e:Event):O Int:=if e.kind=4 then b.ended++[e.sub] else b.ended
theorem Lk (b:Bk) (e:Event) (last:Int) (n:Nat) (h:BB n b) (hn:n<=10000) (f:Gd b e last):∃ b',iT b e=some b'/\BB (n+1) b'/\b'.bp=Uy b e/\b'.ended=RZ b e:=by
 have ha:=h.Pn;have hs:=h.bp;have he:=h.ended;have up:=h.up;unfold iT;rw[af (by omega),af (by omega),af (by omega)];unfold Uy RZ;simp only[zbt];by_cases k1:e.kind=1
 ·have n3:¬e.kind=3:=by omega
  have n4:¬e.kind=4:=by omega
  rw[zab (by simpa using k1),af (by simp only[zal];omega),zaa n3,zab (.inl k1),zaa n4];exact ⟨_,rfl,⟨by simp only[zah,zal];omega,up.bp,up.ended,up.nums⟩,rfl,rfl⟩
 rw[zaa (by simpa using k1)];by_cases k2:e.kind=2
 ·have n3:¬e.kind=3:=by omega
  have n4:¬e.kind=4:=by omega
  have hk:=f.acc k2;rw[zab (by simpa using k2),EG b _ (by omega),zac,show vM (λa:aq=>a.id==e.az) b.aO 0=H5 b e.az from rfl,af hk,af (by omega),zaa n3,zab (.inr (.inl k2)),zaa n4];exact ⟨_,rfl,⟨by simp only[zgc];omega,up.bp,up.ended,up.nums⟩,rfl,rfl⟩
 rw[zaa (by simpa using k2)];by_cases k3:e.kind=3
 ·have n4:¬e.kind=4:=by omega
  rw[zab (by simpa using k3),af (by simp only[zal];omega),zab k3,zaa n4];refine ⟨_,rfl,⟨up.Pn,by simp only[zah,zal];omega,up.ended,λs wS=>?_⟩,rfl,rfl⟩
  simp only[zbc,zcc] at wS;rcases wS with wS|rfl
  ·exact up.nums s wS
  ·simp
 rw[zaa (by simpa using k3),zaa k3];have hj:∀ c:Bool,(c=true->e.kind=14∨e.kind=15)->(c=false->¬(e.kind=14∨e.kind=15))->∃ b',jX b e c=some b'/\BB (n+1) b'/\b'.bp=(if e.kind=1∨e.kind=2∨e.kind=14∨e.kind=15 then b.bp else b.bp.set (mH b e.sub).toNat (LD (nth b.bp (mH b e.sub).toNat) e))/\b'.ended=(if e.kind=4 then b.ended++[e.sub] else b.ended):=λc hc1 hc2=>by
  unfold jX;simp only[zbt];cases c with
  | true =>
   have:=hc1 rfl;rw[zab rfl,zab (.inr (.inr this)),zaa (by omega)];exact ⟨_,rfl,up,rfl,rfl⟩
  | false =>
   have:=hc2 rfl;obtain ⟨sp,_,_⟩:=f.sub (by omega);have hm:=h.nums _ (kB (l:=b.bp) (k:=(mH b e.sub).toNat) (by omega));have hc:=WJ (nth b.bp (mH b e.sub).toNat) e;rw[zaa (by simp),H4 b _ (by omega),zac,af sp,af (by omega),Pp _ _ (by omega) (by omega),zac,af sp,af (by omega)];have NI:∀ s,s∈b.bp.set (mH b e.sub).toNat (LD (nth b.bp (mH b e.sub).toNat) e)->s.numbers.length<=n+1/\s.cJ.length<=n+1:=λs wS=>by
    rcases List.mem_or_eq_of_mem_set wS with h9|rfl
    ·exact up.nums s h9
    ·omega
   rw[zaa (show ¬(e.kind=1∨e.kind=2∨e.kind=14∨e.kind=15) by omega)];by_cases k4:e.kind=4
   ·rw[zab (by simpa using k4),af (by simp only[zal];omega),zab k4];exact ⟨_,rfl,⟨up.Pn,by simp only[zgc];omega,by simp only[zah,zal];omega,NI⟩,rfl,rfl⟩
   ·rw[zaa (by simpa using k4),zaa k4];exact ⟨_,rfl,⟨up.Pn,by simp only[zgc];omega,up.ended,NI⟩,rfl,rfl⟩
 by_cases QC:e.kind=14
 ·rw[zab (by simpa using QC)];exact hj _ (λ_=>.inl QC) (λk=>by simp [QC] at k)
 ·rw[zaa (by simpa using QC)];exact hj _ (λk=>.inr (by simpa using k)) (λk=>by rw[zer] at k;omega)
def b0:Bk:=⟨[],[],[]⟩
theorem bb0:BB 0 b0:=⟨by simp [b0],by simp [b0],by simp [b0],λs h=>by simp [b0] at h⟩
def Pq:List Event->Int->Int->Bk->Option (Int×Int)
 | [],_,_,_=>some (0,0)
 | e::l,i,last,b=>(qM b e last).bind λy=>if y≠0 then some (i,y) else (iT b e).bind λb'=>Pq l (i+1) e.at_ b'
def VC:Bk->Int->List Event->Prop
 | _,_,[]=>True
 | b,last,e::l=>Gd b e last/\∃ b',iT b e=some b'/\VC b' e.at_ l
def ShE (l:O Event):Prop:=∀ e,e∈l->e.name.length<=1000/\e.number.length<=1000
theorem QH:∀ (l:O Event) (i last:Int) (b:Bk) (n:Nat),BB n b->n+l.length<=10000->ShE l->∃ x,Pq l i last b=some x/\(x.2=0->VC b last l)
 | [],i,last,b,n,_,_,_=>⟨_,rfl,λ_=>trivial⟩
 | e::l,i,last,b,n,hb,hl,hs=>by
  rw[zad] at hl;have he:=hs e (zaj ..);obtain ⟨y,hy,f⟩:=QG b e last n hb (by omega) he.1 he.2;unfold Pq;rw[hy,zac];by_cases h0:y=0
  ·rw[zaa (by omega)];obtain ⟨b',ha,mc,_⟩:=Lk b e last n hb (by omega) (f h0);rw[ha,zac];obtain ⟨x,h1,h2⟩:=QH l (i+1) e.at_ b' (n+1) mc (by omega) (λz hz=>hs z (zai _ hz));exact ⟨x,h1,λh=>⟨f h0,b',ha,h2 h⟩⟩
  ·rw[zab h0];exact ⟨_,rfl,λh=>absurd h h0⟩
theorem Pr (bS:O Event) (hl:bS.length<=1000) (hs:ShE bS):th bS=Pq bS 0 0 b0:=by
 unfold th;rw[zaa (by simp;omega)];refine bm (step:=λs:Int×Int×O aq×O Sub×O Int=>oy bS s.1 s.2.1 s.2.2.1 s.2.2.2.1 s.2.2.2.2) bS (λs=>s.2.1) (λs r=>Pq r s.2.1 s.1 ⟨s.2.2.1,s.2.2.2.1,s.2.2.2.2⟩)
  (λs r=>0<=s.2.1/\ShE r/\∃ n,BB n ⟨s.2.2.1,s.2.2.2.1,s.2.2.2.2⟩/\n+r.length<=10000) (by omega) ?_ ?_ (s:=(0,0,[],[],[])) rfl ⟨by simp,hs,0,bb0,by omega⟩
 ·rintro ⟨last,i,a,s,en⟩ ⟨h1,_⟩ h2
  try simp only at h2
  refine ⟨(0,0),?_,rfl⟩;unfold oy;rw[zaa (by simp only[zak];omega)]
 ·rintro ⟨last,i,a,s,en⟩ e r ⟨h1,tL,n,hb,h2⟩ h3 h4 h5 h6;simp only at h1 h2 h3 h4 h5 h6 hb;rw[zad] at h2;have he:=tL e (zaj ..);obtain ⟨y,hy,f⟩:=QG ⟨a,s,en⟩ e last n hb (by omega) he.1 he.2;unfold oy;simp only;rw[zab (by simpa using h4),af ⟨h3,h4⟩,h5,hy,zac];by_cases h0:y=0
  ·obtain ⟨b',ha,mc,_⟩:=Lk ⟨a,s,en⟩ e last n hb (by omega) (f h0);rw[zaa (by simpa using h0),af ⟨h3,h4⟩,ha,zac,af ⟨h3,h4⟩,af ⟨by omega,by omega⟩];refine .inr ⟨(e.at_,i+1,b'.aO,b'.bp,b'.ended),rfl,⟨by simp only;omega,λz hz=>tL z (zai _ hz),n+1,mc,by omega⟩,rfl,?_⟩
   simp only;rw[Pq,hy,zac,zaa (by omega),ha,zac]
  ·rw[zab (by simpa using h0)];refine .inl ⟨_,rfl,?_⟩
   try simp only
   rw[Pq,hy,zac,zab h0]
theorem p_Few (bS:O Event):∃ c,xd bS=some c/\(c=true->bS.length<=40/\ShE bS/\VC b0 0 bS):=by
 unfold xd;refine uT (step:=λs:Int=>uz bS s) (λc=>c=true->bS.length<=40/\ShE bS/\VC b0 0 bS) (λi=>0<=i/\i<=(bS.length:Int)/\i<=41/\ShE (bS.take i.toNat)) (λi=>(41-i).toNat) ?_ (s:=0) ⟨by omega,by omega,by omega,λe h=>by simp at h⟩ (by omega);rintro i ⟨h0,h1,h2,h3⟩;unfold uz;by_cases hc:i<(bS.length:Int)/\i<41
 ·rw[zab (by simpa using hc),af ⟨h0,hc.1⟩,af (λ_=>⟨h0,hc.1⟩)];split
  ·exact .inl ⟨_,rfl,λh=>by simp at h⟩
  ·rename_i hb;rw[af ⟨by omega,by omega⟩];refine .inr ⟨i+1,rfl,⟨by omega,by omega,by omega,?_⟩,by omega⟩;rw[show (i+1).toNat=i.toNat+1 from by omega,ta (by omega)];intro e he;rcases zbc.1 he with he|he
   ·exact h3 e he
   ·rw[zcc.1 he];simp at hb;omega
 ·rw[zaa (by simpa using hc)];unfold rk;by_cases h40:(bS.length:Int) > 40
  ·rw[zab (by simpa using h40)];exact .inl ⟨_,rfl,λh=>by simp at h⟩
  ·rw[zaa (by simpa using h40)];have hs:ShE bS:=by
    have:bS.take i.toNat=bS:=zbz (by omega);rw[this] at h3;exact h3
   obtain ⟨x,hx,hv⟩:=QH bS 0 0 b0 0 bb0 (by omega) hs;rw[Pr bS (by omega) hs,hx];exact .inl ⟨_,rfl,λh=>⟨by omega,hs,hv (by simpa using h)⟩⟩
theorem JN {n:Nat} {w:W7} (h:WB n w):∀ s,s∈kr w->s.numbers.length<=n:=λs hs=>by
 obtain ⟨k,_,hk⟩:=List.mem_filterMap.1 hs;exact (h.nums k s hk).1
theorem NN {n:Nat} {w:W7} (h:WB n w):(kr w).length<=n:=zdn (List.length_filterMap_le ..) h.added
theorem Uz (bS:O Event) (r:aa) (id:Int) (hl:bS.length<=5000) (hs:Sm r):∃ w,NJ r.start bS w0=some w/\gU bS r id=some (FM (kr w) r id):=by
 obtain ⟨w,a,h1,h2,h3⟩:=WC bS r.start hl;have:=WE bS r id ⟨a,kr w⟩ h3 (by have:=NN h2;simp only;omega) (λs wS=>by have:=JN h2 s wS;omega) hs;exact ⟨w,h1,this⟩
theorem UA (u:aA):et (aA.bM u) (aA.bM u)=true:=by
 simp [aA.bM,et,N8]
end Go.Proofs.YtimkfiaffohhkabGreatDoor
