/- Our own texts of this seat. -/
import Derived.Test.YtimkfiaffohhkaaGreatDoorYF4
import Derived.Deep.Slices
import Derived.ChangeArms
import Derived.ProofKit
import Derived.Below
import Derived.ChangeSame
set_option linter.unusedSimpArgs false
set_option linter.unusedVariables false
set_option linter.unusedSectionVars false
set_option maxRecDepth 100000
set_option maxHeartbeats 1000000
namespace Go.Proofs.YtimkfiaffohhkaaGreatDoor
open Go.RowKit Go.Abs
theorem oM {α:Type} [Inhabited α] {l:List α} {k:Nat} (h:k<l.length):nth l k∈l:=by rw [nM h];exact zeu h
theorem eG {α:Type} [Inhabited α] {a:α} {t:List α} {j:Nat}:nth (a::t) (j+1)=nth t j:=by simp [nth]
theorem eY {α:Type} [Inhabited α] {a:α} {t:List α}:nth (a::t) 0=a:=by simp [nth]
theorem Hg (a b:aa):nq a b=some (decide (Lt a b)):=by
 unfold nq;by_cases h1:a.source=b.source
 ·rw [zaa (by simp [h1])];by_cases h2:a.call=b.call
  ·rw [zaa (by simp [h2])];congr 1;rw [zbz,zcm,zcm];unfold Lt;omega
  ·rw [zab (by simpa using h2)];congr 1;rw [zbz,zcm,zcm];unfold Lt;omega
 ·rw [zab (by simpa using h1)];congr 1;rw [zbz,zcm,zcm];unfold Lt;omega
def SX (l:List aa) (t:List aa):Bool:=t.all λx=>(mX (pd true x 1 l).1).isNone
def okB (r:aa):Bool:=decide (r.part≠0) && decide (eb r=0)
def ze:Option aa->List aa->Bool
 | _,[]=>true
 | none,r::t=>okB r && ze (some r) t
 | some y,r::t=>okB r && !decide (Lt r y) && ze (some r) t
theorem Fi:∀ (o:Option aa) (t:List aa),ze o t=true↔Pu (o.toList++t)/\∀ r,r∈t->eb r=0/\r.part≠0
 | o,[]=>by cases o <;> simp [ze,Pu]
 | none,r::t=>by
  have ih:=Fi (some r) t;simp only [ze,okB,zas,zak,ih,zez,zem,zbx,zbp,zaq,forall_eq_or_imp];constructor
  ·intro h;exact ⟨h.2.1,⟨h.1.2,h.1.1⟩,h.2.2⟩
  ·intro h;exact ⟨⟨h.2.1.2,h.2.1.1⟩,h.1,h.2.2⟩
 | some y,r::t=>by
  have ih:=Fi (some r) t;simp only [ze,okB,zas,zak,ih,zem,zbp,zaq,forall_eq_or_imp,zdq,zei];constructor
  ·rintro ⟨⟨⟨h1,h2⟩,h3⟩,h4,h5⟩;refine ⟨zax.2 ⟨λz hz=>?_,h4⟩,⟨h2,h1⟩,h5⟩;rcases zaq.1 hz with e|hz
   ·rw [e];exact h3
   ·exact KF h3 ((zax.1 h4).1 z hz)
  ·rintro ⟨h1,h2,h3⟩;have h4:=zax.1 h1;exact ⟨⟨⟨h2.2,h2.1⟩,h4.1 r (zaj ..)⟩,h4.2,h3⟩
theorem NB (l:List aa):(ze none l && SX l l)=true↔Z5 l:=by
 rw [zas,Fi];simp only [zez,zbx,SX,zbd,Option.isNone_iff_eq_none];constructor
 ·rintro ⟨⟨h1,h2⟩,h3⟩;refine ⟨h1,h2,λx=>?_⟩;by_cases hx:∃ r,r∈l/\cn r x=true
  ·obtain ⟨r,hr,hc⟩:=hx;rw [IP true (oX hc)];exact h3 r hr
  ·rw [Bt true (λr hr hc=>hx ⟨r,hr,hc.1⟩)];rfl
 ·rintro ⟨h1,h2,h3⟩;exact ⟨⟨h1,h2⟩,λx _=>h3 x⟩
theorem Q7 (l:List aa) (hs:∀ r,r∈l->Sm r) (hl:l.length<=1000):lN l=some (SX l l):=by
 unfold lN;refine bp l (λs:Int=>s) (λs t=>some (SX l t)) (λs t=>True) (by omega) ?_ ?_ rfl trivial
 ·intro i _ hi;unfold q9;rw [zaa (by simp only [zak];omega)];exact ⟨_,rfl,rfl⟩
 ·intro i r t _ gS fc hn hlen;unfold q9;rw [zab (by simpa using fc),af ⟨gS,fc⟩,hn,KO l r true hl];have hp:=ya true r 1 0 l;simp only [zac];rw [NA l _ hl (by omega),tR];simp only [zac];have hc:=yB (last:=true) (x:=r) (n:=1) (l:=l);rw [C6 _ (IX hs).1 (by omega)];simp only [zac,SX,zej];cases CG:mX (pd true r 1 l).1 with
  | none =>
   rw [zaa (by simp [xg,Ub]),af (by omega)];exact .inr ⟨_,rfl,trivial,rfl,by simp⟩
  | some w =>
   rw [zab (show (xg (some w)).2=true from rfl)];exact .inl ⟨_,rfl,by simp⟩
theorem SY (l:List aa) (hs:∀ r,r∈l->Sm r) (hl:l.length<=1000):tp l=some (ze none l && SX l l):=by
 unfold tp;have:=bp l (λs:Int=>s) (λs t=>some (ze (if s=0 then none else some (nth l (s-1).toNat)) t && SX l l)) (λs t=>∀ r,r∈t->Sm r) (by omega) (step:=λs=>jU l s) (s:=0) ?_ ?_ rfl hs
 ·exact this
 ·intro i _ hi;unfold jU;rw [zaa (by simp only [zak];omega),Q7 l hs hl];exact ⟨_,rfl,by simp [ze]⟩
 ·intro i r t Pv gS fc hn hlen;unfold jU;rw [zab (by simpa using fc),af ⟨gS,fc⟩,af (λ_=>⟨gS,fc⟩),hn,xZ r (Pv r (zaj ..))];simp only [gn,zac];have e1:(i+1=0)=False:=by simp;omega
  have e2:(i+1-1).toNat=i.toNat:=by omega
  by_cases hk:r.part≠0/\eb r=0
  ·have b1:(r.part==0)=false:=by simpa using hk.1
   simp only [b1,hk.2,zcj,zbu,zdc,zeo,zcn];by_cases h0:i=0
   ·rw [af (by simp [h0]),af (by simp [h0]),af (by simp [h0])];simp only [h0,Int.lt_irrefl,zey,b9,zaa,zaz,zbt,zac,zct,gt_iff_lt];rw [af (by omega)];refine .inr ⟨_,rfl,λp hp=>Pv p (zah _ hp),rfl,?_⟩;have UH:nth l 0=r:=by rw [←hn,h0];rfl
    simp [ze,okB,hk.1,hk.2,UH]
   ·have hp:i > 0:=by omega
    rw [af (λ_=>⟨gS,fc⟩),af (λ_=>by omega),af (λ_=>by omega)];simp only [hp,zfz,Hg,gn,zac,zbu,zcn];rw [zaa h0];generalize nth l (i-1).toNat=y;by_cases hb:Lt r y
    ·rw [zab (by simpa using hb)];exact .inl ⟨_,rfl,by simp [ze,hb]⟩
    ·rw [zaa (by simpa using hb),af (by omega)];refine .inr ⟨_,rfl,λp hp=>Pv p (zah _ hp),rfl,?_⟩;simp only [e1,zbt,e2,hn];simp [ze,okB,hk.1,hk.2,hb]
  ·have hb:((r.part==0) || ((if (!(r.part==0))=true then eb r else default) != 0))=true:=by
    by_cases hp:r.part=0
    ·simp [hp]
    ·simp [hp];intro he;exact hk ⟨hp,he⟩
   simp only [hb,zci,zes,zct,b9,zaz,zbt,zac];rw [af (by simp),af (by simp),af (by simp),zab trivial];refine .inl ⟨_,rfl,?_⟩;have:okB r=false:=by
    unfold okB;rw [zff];simpa using hk
   by_cases h0:i=0 <;> simp [h0,ze,this]
theorem Zp (x y:Int):fK x y=some (if x<y then -1 else if y<x then 1 else 0):=by
 unfold fK lC;simp only [zac,zeo,zaz,zbt,zak,gt_iff_lt];split
 ·rfl
 ·split <;> rfl
theorem p_or (l:List Int) (hl:l.length<=1000):pz l=some ((l.find? (λx=>x != 0)).getD 0):=by
 unfold pz;refine bp l (λs:Int=>s) (λs t=>some ((t.find? (λx=>x != 0)).getD 0)) (λs t=>True) (by omega) ?_ ?_ rfl trivial
 ·intro i _ hi;unfold oG;rw [zaa (by simp only [zak];omega)];exact ⟨_,rfl,rfl⟩
 ·intro i r t _ gS fc hn hlen;unfold oG;rw [zab (by simpa using fc),af ⟨gS,fc⟩,hn];by_cases h:r=0
  ·rw [zaa (by simp [h]),af (by omega)];refine .inr ⟨_,rfl,trivial,rfl,?_⟩;rw [List.find?_cons_of_neg (by simp [h])]
  ·rw [zab (by simpa using h)];refine .inl ⟨_,rfl,?_⟩;rw [List.find?_cons_of_pos (by simpa using h)];rfl
theorem Q8 (a b:aa):∃ c,iS a b=some c/\(c<=0↔¬ Lt b a):=by
 unfold iS;simp only [Zp,zac];rw [p_or _ (by simp)];refine ⟨_,rfl,?_⟩;unfold Lt;by_cases h1:a.source<b.source
 ·simp [h1] <;> omega
 ·by_cases h2:b.source<a.source
  ·simp [h1,h2]
  ·by_cases h3:a.call<b.call
   ·simp [h1,h2,h3] <;> omega
   ·by_cases h4:b.call<a.call
    ·simp [h1,h2,h3,h4] <;> omega
    ·by_cases h5:a.part<b.part
     ·simp [h1,h2,h3,h4,h5] <;> omega
     ·by_cases h6:b.part<a.part
      ·simp [h1,h2,h3,h4,h5,h6] <;> omega
      ·simp [h1,h2,h3,h4,h5,h6] <;> omega
def AB (x:aa):aV:=⟨x.source,x.call⟩
theorem Hh (r x:aa):ew (aV.bP ⟨r.source,r.call⟩) (aV.bP (AB x))=cn r x:=by
 rw [zbz,o7];simp [aV.bP,AB,ew,LO]
def tZ (x:aa):Int->List aa->Int
 | _,[]=>-1
 | i,r::t=>if cn r x=true then i else tZ x (i+1) t
def runN (x:aa):List aa->Nat
 | []=>0
 | r::t=>if cn r x=true then runN x t+1 else 0
theorem Q9 (l:List aa) (x:aa) (hl:l.length<=1000):lD (AB x) l=some (tZ x 0 l):=by
 unfold lD;refine bp l (λs:Int=>s) (λs t=>some (tZ x s t)) (λs t=>True) (by omega) ?_ ?_ rfl trivial
 ·intro i _ hi;unfold lr;rw [zaa (by simp only [zak];omega)];exact ⟨_,rfl,rfl⟩
 ·intro i r t _ gS fc hn hlen;unfold lr;rw [zab (by simpa using fc),af ⟨gS,fc⟩,af (by omega),hn];simp only [lq,c6,zac,Hh];by_cases h:cn r x=true
  ·rw [zab h];exact .inl ⟨_,rfl,by simp [tZ,h]⟩
  ·rw [zaa h,af (by omega)];exact .inr ⟨_,rfl,trivial,rfl,by simp [tZ,h]⟩
theorem NC:∀ (x:aa) (i:Int) (t:List aa),tZ x i t=-1∨(i<=tZ x i t/\tZ x i t<i+t.length)
 | x,i,[]=>.inl rfl
 | x,i,r::t=>by
  unfold tZ;have:=NC x (i+1) t;simp only [zag];split <;> omega
theorem SZ (l:List aa) (x:aa) (hl:l.length<=1000):kp (AB x) l=some (if tZ x 0 l<0 then (0,0) else (tZ x 0 l,tZ x 0 l+runN x (l.drop (tZ x 0 l).toNat))):=by
 unfold kp;rw [Q9 l x hl];have hi:=NC x 0 l;simp only [zac,zak];split
 ·rfl
 ·refine KK l (λs:Int=>s) (λs t=>some (tZ x 0 l,s+(runN x t:Int))) (λs t=>True) (by omega) ?_ ?_ (s:=tZ x 0 l) (by omega) trivial
  ·intro i _ hi;unfold j8;rw [af (λh=>by simp at h;omega),af (λh=>by simp at h;omega)];simp only [b9,hi,Int.lt_irrefl,zey,zaz,zbt,zac,zct];exact ⟨_,rfl,by simp [runN,hi]⟩
  ·intro i r t _ gS fc hn hlen;unfold j8;rw [af (λ_=>⟨gS,fc⟩),af (λ_=>by omega),hn];simp only [b9,fc,zfz,zbu,c6,zac,zcn,Hh];by_cases h:cn r x=true
   ·rw [zab h,af (by omega)];refine .inr ⟨_,rfl,trivial,rfl,?_⟩;simp only [runN,h,zbu];congr 2;omega
   ·rw [zaa h];refine .inl ⟨_,rfl,?_⟩;simp [runN,h]
def fI (k:Int):Int->List aa->Option Int
 | _,[]=>none
 | i,r::t=>if r.part=k then some i else fI k (i+1) t
theorem IY {k:Int}:∀ {i:Int} {l:List aa} {j:Int},fI k i l=some j->i<=j/\j<i+l.length/\(nth l (j-i).toNat).part=k
 | i,[],j,h=>by cases h
 | i,r::l,j,h=>by
  unfold fI at h;simp only [zag];split at h
  ·rename_i hk;cases h;refine ⟨by omega,by omega,?_⟩;rw [show (i-i).toNat=0 from by omega,eY];exact hk
  ·have ih:=IY h;refine ⟨by omega,by omega,?_⟩;rw [show (j-i).toNat=(j-(i+1)).toNat+1 from by omega,eG];exact ih.2.2
theorem C7 (last:Bool) (x:aa) (n:Int):∀ {i:Int} {l:List aa},Pu l->(∀ r,r∈l->cn r x=true)->mY last x n i l=match fI n i l with
  | none=>[]
  | some j=>j::if last=true/\(nth l (j-i).toNat).last=true then [] else mY last x (n+1) i l
 | i,[],_,_=>rfl
 | i,r::l,h,hc=>by
  have h2:=zax.1 h;have hr:=hc r (zaj ..);have Xw:∀ r,r∈l->cn r x=true:=λy hy=>hc y (zah _ hy)
  by_cases hp:r.part=n
  ·have e1:fI n i (r::l)=some i:=by unfold fI;rw [zab hp]
   have e2:mY last x (n+1) i (r::l)=mY last x (n+1) (i+1) l:=by
    conv=>lhs;unfold mY
    rw [zaa (by omega)]
   simp only [e1,e2];rw [show (i-i).toNat=0 from by omega,eY]
   conv=>lhs;unfold mY
   rw [zab ⟨hr,hp⟩];split <;> rfl
  ·have e1:fI n i (r::l)=fI n (i+1) l:=by conv=>lhs;unfold fI;rw [zaa hp]
   have e0:mY last x n i (r::l)=mY last x n (i+1) l:=by
    conv=>lhs;unfold mY
    rw [zaa (λh=>hp h.2)]
   rw [e0,e1,C7 last x n h2.2 Xw];cases hf:fI n (i+1) l with
   | none=>rfl
   | some j =>
    have hj:=IY hf;have hm:nth l (j-(i+1)).toNat∈l:=oM (by omega);have e2:mY last x (n+1) i (r::l)=mY last x (n+1) (i+1) l:=by
     conv=>lhs;unfold mY
     rw [zaa (λh=>by
      have:=SR (h2.1 _ hm) (Bq hr (oX (Xw _ hm)));omega)]
    simp only [e2];rw [show (j-i).toNat=(j-(i+1)).toNat+1 from by omega,eG]
theorem ND (l:List aa) (x:aa) (last:Bool) (hl:l.length<=1000) (hs:Pu l) (hc:∀ r,r∈l->cn r x=true) (hp:∀ r,r∈l->r.part<=99):fL l last=some (mY last x 1 0 l):=by
 unfold fL;refine bp l (λs:Int×List (Int×Int)=>s.1) (λs t=>some (mY last x 1 0 l)) (λs t=>∀ k,(aB s.2 k).or (fI k s.1 t)=fI k 0 l) (by omega) ?_ ?_ rfl (λk=>by rw [GG];rfl)
 ·rintro ⟨i,m⟩ hm hi;simp only at hm hi ⊢;have yI:∀ k,aB m k=fI k 0 l:=λk=>by rw [←hm k];simp [fI]
  unfold dN eL;rw [zaa (by simp only [zak];omega)];have:loop (λs:List Int×Int=>ga l last m s.1 s.2) ([],1)=some (mY last x 1 0 l):=by
   refine (ng (λs:List Int×Int=>some (s.1++mY last x s.2 0 l)) (λs=>1<=s.2/\s.2<=100/\(s.1.length:Int)<=s.2-1) (λs=>(100-s.2).toNat) ?_ ⟨by decide,by decide,by decide⟩ (by decide)).trans (by simp);rintro ⟨out,k⟩ ⟨h0,h1,h2⟩;simp only at h0 h1 h2 ⊢;unfold ga;rw [yI k,C7 last x k hs hc];cases hf:fI k 0 l with
   | none =>
    rw [zab (by simp)];exact .inl ⟨_,rfl,by simp⟩
   | some j =>
    have hj:=IY hf;have hk:=hp _ (oM (l:=l) (k:=(j-0).toNat) (by omega));rw [zaa (by simp),af (by simp only [zag,zay];omega)];simp only [zcv];rw [af (λ_=>by omega),af (λ_=>by omega),show (j-0).toNat=j.toNat from by omega];by_cases Gu:last=true/\(nth l j.toNat).last=true
    ·rw [zab (by simp [Gu.1,Gu.2]),zab Gu];exact .inl ⟨_,rfl,rfl⟩
    ·rw [zaa (by simpa using Gu),zaa Gu,af (by omega)];refine .inr ⟨_,rfl,⟨by simp only;omega,by simp only;omega,by simp only [zai,zag,zay];omega⟩,by simp only;omega,?_⟩;simp
  rw [this];exact ⟨_,rfl,rfl⟩
 ·rintro ⟨i,m⟩ r t hm gS fc hn hlen;simp only at hm gS fc hn hlen ⊢;unfold dN;rw [zab (by simpa using fc),af ⟨gS,fc⟩,af (by omega),hn];cases ha:aB m r.part with
  | none =>
   rw [zab (by simp),af (by omega)];refine .inr ⟨_,rfl,λk=>?_,rfl,by first|rfl|trivial⟩;simp only;rw [fe,←hm k];by_cases hk:r.part=k
   ·rw [zab (by simp [hk])];subst hk;simp [ha,fI]
   ·rw [zaa (by simpa using λh=>hk h.symm)];simp [fI,hk]
  | some j =>
   rw [zaa (by simp),af (by omega)];refine .inr ⟨_,rfl,λk=>?_,rfl,by first|rfl|trivial⟩;simp only;rw [←hm k];by_cases hk:r.part=k
   ·subst hk;simp [ha]
   ·simp [fI,hk]
def vK (at':List Int):Int->List aa->List aa
 | _,[]=>[]
 | i,r::t=>if i∈at' then vK at' (i+1) t else r::vK at' (i+1) t
theorem Fj {a b:List Int}:∀ {i:Int} {l:List aa},(∀ j,i<=j->(j∈a↔j∈b))->vK a i l=vK b i l
 | _,[],_=>rfl
 | i,r::l,h=>by
  have ih:=Fj (i:=i+1) (l:=l) (λj hj=>h j (by omega));unfold vK;simp only [h i (zfi _),ih]
theorem KP:∀ (i:Int) (l:List aa),vK [] i l=l
 | _,[]=>rfl
 | i,r::l=>by unfold vK;rw [zaa (by simp),KP]
theorem Cw:∀ (i:Int) (at':List Int) (l:List aa),at'.Pairwise (· < ·)->(∀ a,a∈at'->i<=a/\a<i+l.length)->nI i at' l=(at'.map λj=>nth l (j-i).toNat,vK at' i l)
 | i,[],l,_,_=>by rw [qQ,KP];rfl
 | i,a::at',[],_,h=>by have:=h a (zaj ..);simp at this;omega
 | i,a::at',r::l,hp,h=>by
  have h2:=zax.1 hp;have ha:=h a (zaj ..);unfold nI;by_cases e:a=i
  ·subst e;rw [zab rfl,Cw (a+1) at' l h2.2 (λb hb=>by
    have h3:=h b (zah _ hb);have h4:=h2.1 b hb;simp only [zag] at h3;omega)]
   have e1:(at'.map λj=>nth (r::l) (j-a).toNat)=at'.map λj=>nth l (j-(a+1)).toNat:=zfw (λb hb=>by
    have h4:=h2.1 b hb;rw [show (b-a).toNat=(b-(a+1)).toNat+1 from by omega,eG])
   have e2:vK (a::at') a (r::l)=vK at' (a+1) l:=by
    conv=>lhs;unfold vK
    rw [zab (zaj ..)];exact Fj (λj hj=>by simp;omega)
   simp only [zao,e1,e2];rw [show (a-a).toNat=0 from by omega,eY]
  ·have oO:∀ b,b∈a::at'->i+1<=b/\b<i+1+l.length:=λb hb=>by
    have h3:=h b hb;simp only [zag] at h3;rcases zaq.1 hb with hb|hb
    ·omega
    ·have:=h2.1 b hb;omega
   rw [zaa e,Cw (i+1) (a::at') l hp oO];have e1:((a::at').map λj=>nth (r::l) (j-i).toNat)=(a::at').map λj=>nth l (j-(i+1)).toNat:=zfw (λb hb=>by
    have h4:=oO b hb;rw [show (b-i).toNat=(b-(i+1)).toNat+1 from by omega,eG])
   have e2:vK (a::at') i (r::l)=r::vK (a::at') (i+1) l:=by
    conv=>lhs;unfold vK
    rw [zaa (λhb=>by have:=oO i hb;omega)]
   rw [e1,e2]
theorem NG (l:List aa) (at':List Int) (hl:l.length<=1000) (hal:at'.length<=1000) (hp:at'.Pairwise (· < ·)) (hb:∀ a,a∈at'->0<=a/\a<(l.length:Int)):kt l at'=some (nI 0 at' l):=by
 unfold kt;rw [Cw 0 at' l hp (λa ha=>by have:=hb a ha;omega)];refine bp at' (λs:List aa×Int×List (Int×Bool)=>s.2.1) (λs t=>some (at'.map (λj=>nth l (j-0).toNat),vK at' 0 l))
  (λs t=>(s.1.length:Int)<=s.2.1/\s.1++t.map (λj=>nth l (j-0).toNat)=at'.map (λj=>nth l (j-0).toNat)/\(∀ j,((aB s.2.2 j).getD false=true∨j∈t)↔j∈at')/\(∀ a,a∈t->0<=a/\a<(l.length:Int))) (by omega) ?_ ?_ (s:=(([]:List aa),(0:Int),([]:List (Int×Bool)))) rfl ⟨by simp,rfl,λj=>by simp [GG],hb⟩
 ·rintro ⟨out,i,m⟩ ⟨h1,h2,h3,h4⟩ hi;simp only at h1 h2 h3 h4 hi ⊢;have hm:∀ j,(aB m j).getD false=decide (j∈at'):=λj=>by rw [zbz,zcm,←h3 j];simp
  rw [zbf,zbq] at h2;unfold fT ig;rw [zaa (by simp only [zak];omega),←h2];have:loop (λs:List aa×Int=>ic l out m s.1 s.2) ([],0)=some (out,vK at' 0 l):=by
   refine (bp l (λs:List aa×Int=>s.2) (λs t=>some (out,s.1++vK at' s.2 t)) (λs t=>(s.1.length:Int)<=s.2) (by omega) ?_ ?_ rfl (by simp)).trans (by simp)
   ·rintro ⟨oth,k⟩ hq hk;simp only at hq hk ⊢;unfold ic;rw [zaa (by simp only [zak];omega)];exact ⟨_,rfl,by simp [vK]⟩
   ·rintro ⟨oth,k⟩ r t hq QH cH hn hlen;simp only at hq QH cH hn hlen ⊢;unfold ic;rw [zab (by simpa using cH),af ⟨QH,cH⟩,af (by omega),hn,hm k];by_cases tV:k∈at'
    ·rw [zaa (by simpa using tV),af (by omega)];refine .inr ⟨_,rfl,by simp only;omega,rfl,?_⟩;simp [vK,tV]
    ·rw [zab (by simpa using tV),af (by simp only [zag,zay];omega),af (by omega)];refine .inr ⟨_,rfl,by simp only [zai,zag,zay];omega,rfl,?_⟩;simp [vK,tV]
  rw [this];exact ⟨_,rfl,rfl⟩
 ·rintro ⟨out,i,m⟩ a t ⟨h1,h2,h3,h4⟩ gS fc hn hlen;simp only at h1 h2 h3 h4 gS fc hn hlen ⊢;have ha:=h4 a (zaj ..);unfold fT;rw [zab (by simpa using fc),af ⟨gS,fc⟩,hn,af ha,af (by omega),af (by simp only [zag,zay];omega),af (by omega)];refine .inr ⟨_,rfl,⟨?_,?_,λj=>?_,λb hb=>h4 b (zah _ hb)⟩,rfl,by first|rfl|trivial⟩
  ·simp only [zai,zag,zay];omega
  ·simp only;rw [←h2,zao,show (a-0).toNat=a.toNat from by omega];simp
  ·simp only;rw [fe,←h3 j];by_cases hj:j=a
   ·rw [zab (by simp [hj])];simp [hj]
   ·rw [zaa (by simpa using hj)];simp [hj]
theorem Hi (x:aa):∀ (i:Int) (l:List aa),0<=i->(tZ x i l=-1/\∀ r,r∈l->cn r x=false)∨(∃ pre r t,l=pre++r::t/\(∀ y,y∈pre->cn y x=false)/\cn r x=true/\tZ x i l=i+pre.length)
 | i,[],_=>.inl ⟨rfl,by simp⟩
 | i,r::l,h0=>by
  unfold tZ;by_cases h:cn r x=true
  ·rw [zab h];exact .inr ⟨[],r,l,rfl,by simp,h,by simp⟩
  ·rw [zaa h];rcases Hi x (i+1) l (by omega) with ⟨h1,h2⟩|⟨pre,y,t,h1,h2,h3,h4⟩
   ·exact .inl ⟨h1,λy hy=>by
     rcases zaq.1 hy with e|hy
     ·rw [e];simpa using h
     ·exact h2 y hy⟩
   ·refine .inr ⟨r::pre,y,t,by rw [h1];rfl,λz hz=>?_,h3,by rw [h4];simp only [zag];omega⟩;rcases zaq.1 hz with e|hz
    ·rw [e];simpa using h
    ·exact h2 z hz
theorem KQ (x:aa):∀ (l:List aa),runN x l=(IU x l).length
 | []=>rfl
 | r::l=>by
  have ih:=KQ x l;unfold runN;unfold IU at ih ⊢;by_cases h:cn r x=true
  ·rw [zab h,List.takeWhile_cons_of_pos (p:=λr=>cn r x) h,zag,ih]
  ·rw [zaa h,List.takeWhile_cons_of_neg (p:=λr=>cn r x) h];rfl
theorem Ra {x:aa} {l:List aa} (hs:Pu l):(tZ x 0 l<0/\∀ r,r∈l->cn r x=false)∨(∃ pre run post,l=pre++(run++post)/\tZ x 0 l=(pre.length:Int)/\runN x (l.drop (tZ x 0 l).toNat)=run.length/\0<run.length/\(∀ r,r∈pre->cn r x=false)/\(∀ r,r∈run->cn r x=true)/\(∀ r,r∈post->cn r x=false)):=by
 rcases Hi x 0 l (zfi _) with ⟨h1,h2⟩|⟨pre,r,t,h1,h2,h3,h4⟩
 ·exact .inl ⟨by omega,h2⟩
 ·right;have e:∀ (l:List aa),IU r l=IU x l/\Ff r l=Ff x l:=λl=>by
   unfold IU Ff;have:(λy=>cn y r)=λy=>cn y x:=funext λy=>Br h3
   rw [this];exact ⟨rfl,rfl⟩
  have sC:Pu (r::t):=by rw [h1] at hs;exact (List.pairwise_append.1 hs).2.1
  have hd:l.drop (tZ x 0 l).toNat=r::t:=by rw [h4,h1,show (0+(pre.length:Int)).toNat=pre.length from by omega,zfb]
  refine ⟨pre,IU x (r::t),Ff x (r::t),by rw [Q4];exact h1,by omega,by rw [hd,KQ],?_,h2,Q5,λy hy=>?_⟩
  ·unfold IU;rw [List.takeWhile_cons_of_pos (p:=λr=>cn r x) h3];simp
  ·rw [←Br h3];rw [←(e (r::t)).2] at hy;exact O2 sC y hy
theorem qR (x:aa):∀ (m m':Nat) (now:List aa),now.length<m->now.length<m'->fC m now x=fC m' now x
 | 0,_,_,h,_=>by omega
 | _,0,_,_,h=>by omega
 | m+1,m'+1,now,h,h'=>by
  unfold fC;cases hc:mX (pd true x 1 now).1 with
  | none=>rfl
  | some w =>
   have hl:=yB (last:=true) (x:=x) (n:=1) (l:=now);have hp:0<(pd true x 1 now).1.length:=zcw.2 (vI hc);simp only [qR x m m' (pd true x 1 now).2 (by omega) (by omega)]
theorem Hj (x:aa):∀ (m:Nat) (now:List aa),(fC m now x).1.length+(fC m now x).2.length<=now.length
 | 0,now=>by simp [fC]
 | m+1,now=>by
  unfold fC;split
  ·simp
  ·rename_i w hc;have hl:=yB (last:=true) (x:=x) (n:=1) (l:=now);have hp:0<(pd true x 1 now).1.length:=zcw.2 (vI hc);have ih:=Hj x m (pd true x 1 now).2;simp only [zag];omega
structure Wt (l:List aa):Prop where
 IS:Pu l
 ok:∀ r,r∈l->eb r=0
theorem Wt.sm {l:List aa} (h:Wt l):∀ r,r∈l->Sm r:=λr hr=>IW (h.ok r hr)
theorem Wt.le {l:List aa} (h:Wt l):∀ r,r∈l->r.part<=99:=λr hr=>(lQ (h.ok r hr)).part.2
theorem Wt.sub {l l':List aa} (h:Wt l) (hs:l'.Sublist l):Wt l':=⟨h.IS.sublist hs,λr hr=>h.ok r (hs.subset hr)⟩
theorem Z5.wt {l:List aa} (h:Z5 l):Wt l:=⟨h.IS,λr hr=>(h.ok r hr).1⟩
theorem Wt.ins {l:List aa} (h:Wt l) {p:aa} (hp:eb p=0):Wt (oE l p):=⟨KH h.IS,λr hr=>by
 rcases Bs.1 hr with e|hr
 ·rw [e];exact hp
 ·exact h.ok r hr⟩
theorem Cx (x:aa):∀ (m:Nat) (now:List aa),(fC m now x).2.Sublist now
 | 0,now=>List.Sublist.refl _
 | m+1,now=>by
  unfold fC;split
  ·exact List.Sublist.refl _
  ·exact (Cx x m _).trans (DO _ _ _ _)
theorem Wt.step {l:List aa} (h:Wt l) {p:aa} (hp:eb p=0):Wt (kR l p).2:=by
 unfold kR;split
 ·exact h
 ·exact (h.ins hp).sub (Cx _ _ _)
theorem Cy (l:List aa) (p:aa):(kR l p).1.length+(kR l p).2.length<=l.length+1:=by
 unfold kR;split
 ·simp;omega
 ·have:=Hj p (l.length+2) (oE l p);rw [Fa] at this;exact this
theorem Rb (x:aa) (now out:List aa) (h:Wt now) (hl:now.length+out.length<=1000):ij (AB x) now out=some ((fC (now.length+1) now x).2,out++(fC (now.length+1) now x).1):=by
 unfold ij;refine ng (λs:List aa×List aa=>some ((fC (s.1.length+1) s.1 x).2,s.2++(fC (s.1.length+1) s.1 x).1)) (λs=>Wt s.1/\s.1.length+s.2.length<=1000) (λs=>s.1.length) ?_ ⟨h,hl⟩ (by simp only;omega);rintro ⟨l,o⟩ ⟨hw,hb⟩;simp only at hw hb ⊢;unfold fM;rw [SZ l x (by omega)];rcases Ra (x:=x) hw.IS with ⟨h1,h2⟩|⟨pre,run,post,e,h1,h2,h3,h4,h5,h6⟩
 ·rw [zab h1];simp only [zac];rw [af (by omega),af (by omega)];simp only [Int.toNat_zero,List.take_zero,List.drop_zero];rw [ND [] x true (by simp) .nil (by simp) (by simp)];simp only [zac,mY];rw [NG [] [] (by simp) (by simp) .nil (by simp)];simp only [zac,qQ];rw [Fh [] (by simp) (by simp),Fc];simp only [zac,xg,Ub,zcj,zbu];refine .inl ⟨_,rfl,?_⟩;have:fC (l.length+1) l x=([],l):=by
   unfold fC;rw [Bt true (λr hr hc=>by rw [h2 r hr] at hc;simp at hc)];rfl
  rw [this,zbq]
 ·have hlen:l.length=pre.length+(run.length+post.length):=by rw [e];simp
  rw [h2,h1,zaa (by omega)];simp only [zac];have hrs:run.Sublist l:=by
   rw [e];exact (List.sublist_append_left run post).trans (List.sublist_append_right pre _)
  have Pq:(l.take ((pre.length:Int)+(run.length:Int)).toNat).drop ((pre.length:Int)).toNat=run:=by
   rw [e,show ((pre.length:Int)+(run.length:Int)).toNat=pre.length+run.length from by omega,show ((pre.length:Int)).toNat=pre.length from by omega,←zat,←zai,zfx,zfb]
  have hwr:=hw.sub hrs;rw [af (by omega),af (by omega),Pq,ND run x true (by omega) hwr.IS h5 hwr.le];have UA:=ya true x 1 0 run;simp only [zac];rw [NG run _ (by omega) (by omega) (Fe _ _ _ _ _) (λa ha=>by have:=Bv true x 1 0 run a ha;omega),tR];have rp:=yB (last:=true) (x:=x) (n:=1) (l:=run);simp only [zac];rw [Fh _ (IX hwr.sm).1 (by omega)];simp only [zac];have Jp:pd true x 1 l=((pd true x 1 run).1,pre++((pd true x 1 run).2++post)):=by
   rw [e,Nw true (λr hr hc=>by rw [h4 r hr] at hc;simp at hc),Fb true h6]
  cases hc:mX (pd true x 1 run).1 with
  | none =>
   simp only [xg,Ub,zcj,zbu];refine .inl ⟨_,rfl,?_⟩;have:fC (l.length+1) l x=([],l):=by
    unfold fC;rw [Jp,hc]
   rw [this,zbq]
  | some w =>
   have hp:0<(pd true x 1 run).1.length:=zcw.2 (vI hc);simp only [xg,zci,zaz,zbt];unfold r8;rw [af ⟨by omega,by omega,by omega,by omega,by omega⟩];simp only [zac];rw [af (by simp only [zag,zay];omega)];have mb:l.take ((pre.length:Int)).toNat++(pd true x 1 run).2++l.drop ((pre.length:Int)+(run.length:Int)).toNat=(pd true x 1 l).2:=by
    rw [Jp]
    conv=>lhs;rw [e]
    rw [show ((pre.length:Int)+(run.length:Int)).toNat=pre.length+run.length from by omega,show ((pre.length:Int)).toNat=pre.length from by omega,zfx,←zat pre run post,←zai,zfb,zat]
   rw [mb];have zl:=yB (last:=true) (x:=x) (n:=1) (l:=l);rw [Jp] at zl;simp only at zl;have hl3:(pd true x 1 l).2.length<l.length:=by rw [Jp];simp only;omega
   refine .inr ⟨_,rfl,⟨hw.sub (DO _ _ _ _),by simp only [zai,zag,zay];omega⟩,by simp only;omega,?_⟩;simp only;have:fC (l.length+1) l x=(w::(fC l.length (pd true x 1 l).2 x).1,(fC l.length (pd true x 1 l).2 x).2):=by
    conv=>lhs;unfold fC
    rw [show (pd true x 1 l).1=(pd true x 1 run).1 from by rw [Jp],hc]
   rw [this,qR x ((pd true x 1 l).2.length+1) l.length _ (by omega) (by omega)];simp
theorem WA (now l:List aa) (h:Wt now) (hv:∀ r,r∈l->eb r=0) (hl:now.length+l.length<=1000):iI now l=some (jm now l):=by
 unfold iI eU;rw [af (by omega)];simp only [zac];refine (bp l (λs:List aa×List aa×Int=>s.2.2) (λs t=>some (s.2.1++(jm s.1 t).1,(jm s.1 t).2)) (λs t=>Wt s.1/\(∀ r,r∈t->eb r=0)/\s.1.length+s.2.1.length+t.length<=1000) (by omega) ?_ ?_ (s:=(now,([]:List aa),(0:Int))) rfl ⟨h,hv,by simp only [zay];omega⟩).trans (by simp)
 ·rintro ⟨w,o,i⟩ ⟨h1,h2,h3⟩ hi;simp only at h1 h2 h3 hi ⊢;unfold j9;rw [zaa (by simp only [zak];omega)];exact ⟨_,rfl,by simp [jm]⟩
 ·rintro ⟨w,o,i⟩ r t ⟨h1,h2,h3⟩ gS fc hn hlen;simp only at h1 h2 h3 gS fc hn hlen ⊢;simp only [zag] at h3;have hr:=h2 r (zaj ..);have ht:∀ r,r∈t->eb r=0:=λy hy=>h2 y (zah _ hy)
  unfold j9;rw [zab (by simpa using fc),af ⟨gS,fc⟩,hn];by_cases hp:r.part=0
  ·rw [zab (by simpa using hp),af (by simp only [zag,zay];omega),af (by omega)];refine .inr ⟨_,rfl,⟨h1,ht,by simp only [zai,zag,zay];omega⟩,rfl,?_⟩;simp only [jm,kR,hp,zbu];simp
  ·rw [zaa (by simpa using hp)];have es:kR w r=fC (w.length+2) (oE w r) r:=by unfold kR;rw [zaa hp]
   have Zq:=h1.ins hr;have nL:=Fa w r;have key:loop (λs=>ik l w o i s) 0=some (.inl ((kR w r).2,o++(kR w r).1,i+1)):=by
    refine bp w (λs:Int=>s) (λs t=>(some (Sum.inl ((kR w r).2,o++(kR w r).1,i+1)):Option ((List aa×List aa×Int) ⊕ (List aa×List aa)))) (λs t=>t=w.drop s.toNat/\oE w r=w.take s.toNat++oE t r) (by omega) ?_ ?_ rfl ⟨rfl,by simp⟩
    ·intro k ⟨_,hk⟩ hke;unfold ik fU;rw [af (λh=>by simp at h;omega),af (λh=>by simp at h;omega)];have e0:decide (k<(w.length:Int))=false:=by simp;omega
     simp only [e0,b9,zaz,zbt,zac,zct,hn];unfold po;rw [af ⟨by omega,by omega,by simp,by simp only [zag,zay];omega⟩];have e1:w.take k.toNat++[r]++w.drop k.toNat=oE w r:=by
      rw [hk,zdb (by omega)];simp [oE]
     simp only [zac,c6,e1];rw [show (⟨r.source,r.call⟩:aV)=AB r from rfl,Rb r (oE w r) o Zq (by omega),qR r ((oE w r).length+1) (w.length+2) _ (by omega) (by omega),←es];simp only [zac];rw [af (by omega)];exact ⟨_,rfl,rfl⟩
    ·intro k y u ⟨hdu,hk⟩ QH cH hny hkl;have hu:w.drop (k.toNat+1)=u:=by
      rw [td (l:=w) (k:=k.toNat) (by omega)] at hdu;injection hdu with _ h;exact h.symm
     unfold ik fU;rw [af (λ_=>⟨QH,cH⟩),af (λ_=>by omega)];obtain ⟨c,hc,qc⟩:=Q8 y r;have e0:decide (k<(w.length:Int))=true:=by simp;omega
     simp only [e0,b9,zbu,hny,hn,hc,zac,zcn];by_cases cE:Lt r y
     ·rw [zaa (by simp;exact Int.lt_of_not_ge (λh=>(qc.1 h) cE))];unfold po;rw [af ⟨by omega,by omega,by simp,by simp only [zag,zay];omega⟩];have e1:w.take k.toNat++[r]++w.drop k.toNat=oE w r:=by
       rw [hk,td (l:=w) (k:=k.toNat) (by omega),hny];rw [hu];unfold oE;rw [zab cE];simp
      simp only [zac,c6,e1];rw [show (⟨r.source,r.call⟩:aV)=AB r from rfl,Rb r (oE w r) o Zq (by omega),qR r ((oE w r).length+1) (w.length+2) _ (by omega) (by omega),←es];simp only [zac];rw [af (by omega)];exact .inl ⟨_,rfl,rfl⟩
     ·rw [zab (by simp;exact qc.2 cE),af (by omega)];refine .inr ⟨_,rfl,⟨by rw [show (k+1).toNat=k.toNat+1 from by omega,hu],?_⟩,rfl,by first|rfl|trivial⟩;rw [hk,show (k+1).toNat=k.toNat+1 from by omega,pj (by omega),hny]
      conv=>lhs;unfold oE
      rw [zaa cE];simp
   rw [key];have Pq:=Cy w r;refine .inr ⟨_,rfl,⟨h1.step hr,ht,by simp only [zai];omega⟩,rfl,?_⟩;simp only [jm];simp
theorem O5 (l:List aa) (p:aa) (hl:l.length<=1000):pT l p=some (oE l p):=by
 unfold pT;refine (bp l (λs:List aa×Bool×Int=>s.2.2) (λs t=>some (s.1++if s.2.1=true then t else oE t p)) (λs t=>(s.1.length:Int)=s.2.2+if s.2.1=true then 1 else 0) (by omega) ?_ ?_ (s:=(([]:List aa),false,(0:Int))) rfl (by simp)).trans (by simp)
 ·rintro ⟨o,d,i⟩ h hi;simp only at h hi ⊢;have hb:(o.length:Int)<=i+1:=by rw [h];split <;> omega
  unfold oK lJ;rw [zaa (by simp only [zak];omega)];cases d
  ·simp only [zcj,zbu,zaz,zbt];rw [af (by simp only [zag,zay];omega)];exact ⟨_,rfl,by simp [oE]⟩
  ·exact ⟨_,rfl,by simp⟩
 ·rintro ⟨o,d,i⟩ r t h gS fc hn hlen;simp only at h gS fc hn hlen ⊢;have hb:(o.length:Int)<=i+1:=by rw [h];split <;> omega
  unfold oK js;rw [zab (by simpa using fc),af (λ_=>⟨gS,fc⟩),hn];cases d
  ·simp only [zcj,b9,zbu,Hg,zac,zcn,zaz,zbt];by_cases cE:Lt p r
   ·rw [zab (by simpa using cE),af (by simp only [zag,zay];omega),af ⟨gS,fc⟩,af (by simp only [zai,zag,zay];omega),af (by omega)];refine .inr ⟨_,rfl,?_,rfl,?_⟩
    ·simp only [zaz,zbt] at h;simp only [zai,zag,zay,zbu];omega
    ·simp [oE,cE]
   ·rw [zaa (by simpa using cE),af ⟨gS,fc⟩,af (by simp only [zag,zay];omega),af (by omega)];refine .inr ⟨_,rfl,?_,rfl,?_⟩
    ·simp only [zai,zag,zay];omega
    ·simp [oE,cE]
  ·simp only [zci,b9,zaz,zbt,zac,zct,zbu];rw [af ⟨gS,fc⟩,af (by simp only [zag,zay];omega),af (by omega)];refine .inr ⟨_,rfl,?_,rfl,?_⟩
   ·simp only [zai,zag,zay,zbu] at h ⊢;omega
   ·simp
theorem S0 (v:List aa) (i:Int) (r:aa) (hn:nth v i.toNat=r) (gS:0<=i) (fc:i<(v.length:Int)) (now out:List aa) (hs:∀ r,r∈now->Sm r) (hl:now.length+out.length<=1000) (hv:v.length<=1000) :
  loop (λs:List aa×List aa=>re v i s.1 s.2) (out,now)=some (.inl (out++(fC (now.length+1) now r).1,(fC (now.length+1) now r).2,i+1)):=by
 refine ng (λs:List aa×List aa=>(some (Sum.inl (s.1++(fC (s.2.length+1) s.2 r).1,(fC (s.2.length+1) s.2 r).2,i+1)):Option ((List aa×List aa×Int) ⊕ (List aa×List aa)))) (λs=>(∀ r,r∈s.2->Sm r)/\s.2.length+s.1.length<=1000) (λs=>s.2.length) ?_ ⟨hs,hl⟩ (by simp only;omega);rintro ⟨o,l⟩ ⟨hw,hb⟩;simp only at hw hb ⊢;unfold re;rw [af ⟨gS,fc⟩,hn,KO l r true (by omega)];have UA:=ya true r 1 0 l;simp only [zac];rw [NA l _ (by omega) (by omega),tR];have rp:=yB (last:=true) (x:=r) (n:=1) (l:=l);simp only [zac];rw [C6 _ (IX hw).1 (by omega)];simp only [zac];cases hc:mX (pd true r 1 l).1 with
 | none =>
  simp only [xg,Ub,zcj,zbu];rw [af (by omega)];refine .inl ⟨_,rfl,?_⟩;have:fC (l.length+1) l r=([],l):=by unfold fC;rw [hc]
  rw [this,zbq]
 | some w =>
  have hp:0<(pd true r 1 l).1.length:=zcw.2 (vI hc);simp only [xg,zci,zaz,zbt];rw [af (by simp only [zag,zay];omega)];refine .inr ⟨_,rfl,⟨(IX hw).2,by simp only [zai,zag,zay];omega⟩,by simp only;omega,?_⟩;have:fC (l.length+1) l r=(w::(fC l.length (pd true r 1 l).2 r).1,(fC l.length (pd true r 1 l).2 r).2):=by
   conv=>lhs;unfold fC
   rw [hc]
  simp only;rw [this,qR r ((pd true r 1 l).2.length+1) l.length _ (by omega) (by omega)];simp
theorem Rc {now:List aa} {r:aa} (hs:∀ r,r∈now->Sm r) (hr:Sm r):∀ y,y∈(kR now r).2->Sm y:=by
 unfold kR;split
 ·exact hs
 ·intro y hy;rcases Bs.1 ((Cx _ _ _).subset hy) with e|hy
  ·rw [e];exact hr
  ·exact hs y hy
theorem S3 (now l:List aa) (h:∀ r,r∈now->Sm r) (hv:∀ r,r∈l->Sm r) (hl:now.length+l.length<=1000):tx now l=some (jm now l):=by
 unfold tx;rw [af (by omega)];refine (bp l (λs:List aa×List aa×Int=>s.2.2) (λs t=>some (s.1++(jm s.2.1 t).1,(jm s.2.1 t).2)) (λs t=>(∀ r,r∈s.2.1->Sm r)/\(∀ r,r∈t->Sm r)/\s.2.1.length+s.1.length+t.length<=1000) (by omega) ?_ ?_ (s:=(([]:List aa),now,(0:Int))) rfl ⟨h,hv,by simp only [zay];omega⟩).trans (by simp)
 ·rintro ⟨o,w,i⟩ ⟨h1,h2,h3⟩ hi;simp only at h1 h2 h3 hi ⊢;unfold rf;rw [zaa (by simp only [zak];omega)];exact ⟨_,rfl,by simp [jm]⟩
 ·rintro ⟨o,w,i⟩ r t ⟨h1,h2,h3⟩ gS fc hn hlen;simp only at h1 h2 h3 gS fc hn hlen ⊢;simp only [zag] at h3;have hr:=h2 r (zaj ..);have ht:∀ r,r∈t->Sm r:=λy hy=>h2 y (zah _ hy)
  unfold rf;rw [zab (by simpa using fc),af ⟨gS,fc⟩,hn];by_cases hp:r.part=0
  ·rw [zab (by simpa using hp),af ⟨gS,fc⟩,af (by simp only [zag,zay];omega),af (by omega)];refine .inr ⟨_,rfl,⟨h1,ht,by simp only [zai,zag,zay];omega⟩,rfl,?_⟩;simp only [jm,kR,hp,zbu];simp
  ·have es:kR w r=fC (w.length+2) (oE w r) r:=by unfold kR;rw [zaa hp]
   have nL:=Fa w r;rw [zaa (by simpa using hp),af ⟨gS,fc⟩,O5 w r (by omega)];simp only [zac];rw [S0 l i r hn gS fc (oE w r) o (λy hy=>by
    rcases Bs.1 hy with e|hy
    ·rw [e];exact hr
    ·exact h1 y hy) (by omega) (by omega),qR r ((oE w r).length+1) (w.length+2) _ (by omega) (by omega),←es]
   have Pq:=Cy w r;refine .inr ⟨_,rfl,⟨Rc h1 hr,ht,by simp only [zai];omega⟩,rfl,?_⟩;simp only [jm];simp
def oF (s:Int):Int->List Head->Int
 | k,[]=>k
 | k,h::t=>oF s (if h.source=s then h.number+1 else k) t
def S4 (h:Head):Prop:=-9223372036854775808<=h.number/\h.number<=9223372036854775806
theorem NH (l:List Head) (n:Nat) (s:Int) (hn:n<=l.length) (hl:l.length<=100000) (xt:∀ h,h∈l.take n->S4 h):oU l (n:Int) s=some (oF s 1 (l.take n)):=by
 unfold oU;have eN:(l.take n).length=n:=by rw [zbe];omega
 refine bp (l.take n) (λst:Int×Int=>st.2) (λst t=>some (oF s st.1 t)) (λst t=>∀ h,h∈t->S4 h) (by omega) ?_ ?_ (s:=((1:Int),(0:Int))) rfl xt
 ·rintro ⟨k,i⟩ _ hi;simp only at hi ⊢;unfold qZ;rw [zaa (by simp only [zak];omega)];exact ⟨_,rfl,rfl⟩
 ·rintro ⟨k,i⟩ h t ht gS fc hx hlen;simp only at ht gS fc hx hlen ⊢;have jK:nth l i.toNat=h:=by
   rw [←hx,nM (by omega),nM (by omega),List.getElem_take]
  have:=ht h (zaj ..);unfold S4 at this;unfold qZ;rw [zab (by simp only [zak];omega),af (by omega),jK];by_cases hs:h.source=s
  ·rw [zab (by simpa using hs),af (by omega),af (by omega),af (by omega)];refine .inr ⟨_,rfl,λx hx=>ht x (zah _ hx),rfl,?_⟩;simp only [oF,hs,zbu]
  ·rw [zaa (by simpa using hs),af (by omega)];refine .inr ⟨_,rfl,λx hx=>ht x (zah _ hx),rfl,?_⟩;simp only [oF,hs,zbt]
def Gv (h:Head):Prop:=(1<=h.source/\h.source<=99)/\(1<=h.number/\h.number<=999999999)/\(1<=h.format/\h.format<=3)/\(0<=h.count/\h.count<=4096)
instance (h:Head):Decidable (Gv h):=by unfold Gv;infer_instance
def Re:List Head->List Head->Bool
 | _,[]=>true
 | d,h::t=>decide (Gv h/\h.number=oF h.source 1 d) && Re (d++[h]) t
theorem IZ {h:Head} (o:Gv h):S4 h:=by unfold Gv at o;unfold S4;omega
theorem Fk:∀ {d l:List Head},Re d l=true->∀ h,h∈l->Gv h
 | _,[],_,h,hm=>by cases hm
 | d,x::l,hb,h,hm=>by
  simp only [Re,zas,zak] at hb;rcases zaq.1 hm with rfl|hm
  ·exact hb.1.1
  ·exact Fk hb.2 h hm
theorem Rf (v:aF) (hl:v.aO.length<=100000):rE v=some (Re [] v.aO):=by
 unfold rE;have:=bp v.aO (step:=λs=>mz v s) (λs:Int=>s) (λs t=>some (Re (v.aO.take s.toNat) t)) (λs t=>∀ h,h∈v.aO.take s.toNat->Gv h) (by omega) (s:=0) ?_ ?_ rfl (by simp)
 ·exact this
 ·intro i _ hi;unfold mz;rw [zaa (by simp only [zak];omega)];exact ⟨_,rfl,rfl⟩
 ·intro i h t ht gS fc hx hlen;unfold mz;rw [zab (by simpa using fc),af ⟨gS,fc⟩,hx];by_cases h1:(1<=h.source/\h.source<=99)/\(1<=h.number/\h.number<=999999999)
  ·have e1:((((decide (h.source<1)) || (decide (h.source > 99))) || (decide (h.number<1))) || (decide (h.number > 999999999)))=false:=by simp;omega
   have hn:oU v.aO i h.source=some (oF h.source 1 (v.aO.take i.toNat)):=by
    have:=NH v.aO i.toNat h.source (by omega) hl (λx hx=>IZ (ht x hx))
    rwa [show ((i.toNat:Nat):Int)=i from by omega] at this
   simp only [e1,zcj,b9,zbu,hn,zac,zdc];by_cases h2:Gv h/\h.number=oF h.source 1 (v.aO.take i.toNat)
   ·have h3:=h2.1;unfold Gv at h3;rw [zaa (by simp [h2.2.symm];omega),af (by omega)];refine .inr ⟨_,rfl,?_,rfl,?_⟩
    ·rw [show (i+1).toNat=i.toNat+1 from by omega,pj (by omega),hx];intro y hy;rcases zbm.1 hy with hy|hy
     ·exact ht y hy
     ·simp at hy;subst hy;exact h2.1
    ·rw [show (i+1).toNat=i.toNat+1 from by omega,pj (by omega),hx];simp only [Re,zdu h2,zcn]
   ·rw [zab (by
     unfold Gv at h2;simp only [zbv,bne_iff_ne,zak];by_cases hq:h.number=oF h.source 1 (v.aO.take i.toNat)
     ·have:¬((1<=h.format/\h.format<=3)/\(0<=h.count/\h.count<=4096)):=λhh=>h2 ⟨⟨h1.1,h1.2,hh.1,hh.2⟩,hq⟩
      omega
     ·exact .inl (.inl (.inl (.inl hq))))]
    exact .inl ⟨_,rfl,by simp only [Re,zdf h2,zct]⟩
  ·have e1:((((decide (h.source<1)) || (decide (h.source > 99))) || (decide (h.number<1))) || (decide (h.number > 999999999)))=true:=by simp;omega
   simp only [e1,zci,b9,zaz,zbt,zac,zes,zbu];refine .inl ⟨_,rfl,?_⟩;have:¬(Gv h/\h.number=oF h.source 1 (v.aO.take i.toNat)):=λhh=>h1 ⟨hh.1.1,hh.1.2.1⟩
   simp only [Re,zdf this,zct]
def rZ (r:Range):Prop:=(1<=r.source/\r.source<=99)/\1<=r.from_/\r.from_<=r.iu/\r.iu<=999999999
instance (r:Range):Decidable (rZ r):=by unfold rZ;infer_instance
def Ap (p r:Range):Prop:=p.source<r.source∨(p.source=r.source/\p.iu+1<r.from_)
instance (p r:Range):Decidable (Ap p r):=by unfold Ap;infer_instance
def yb:Option Range->List Range->Bool
 | _,[]=>true
 | none,r::t=>decide (rZ r) && yb (some r) t
 | some p,r::t=>decide (rZ r/\Ap p r) && yb (some r) t
structure Can (l:List Range):Prop where
 ok:∀ r,r∈l->rZ r
 IS:l.Pairwise Ap
theorem yc:∀ (o:Option Range) (t:List Range),(∀ p,o=some p->rZ p)->(yb o t=true↔(∀ r,r∈t->rZ r)/\(o.toList++t).Pairwise Ap)
 | o,[],_=>by cases o <;> simp [yb]
 | none,r::t,_=>by
  simp only [yb,zas,zak,zez,zbx];constructor
  ·rintro ⟨h1,h2⟩;have ih:=(yc (some r) t (λp hp=>by cases hp;exact h1)).1 h2;simp only [zem,zbp] at ih;refine ⟨λx hx=>?_,ih.2⟩;rcases zaq.1 hx with rfl|hx
   ·exact h1
   ·exact ih.1 x hx
  ·rintro ⟨h1,h2⟩;refine ⟨h1 r (zaj ..),(yc (some r) t (λp hp=>by cases hp;exact h1 r (zaj ..))).2 ⟨λx hx=>h1 x (zah _ hx),by simpa using h2⟩⟩
 | some p,r::t,hp=>by
  simp only [yb,zas,zak,zem,zbp];constructor
  ·rintro ⟨⟨h1,h3⟩,h2⟩;have ih:=(yc (some r) t (λp hp=>by cases hp;exact h1)).1 h2;simp only [zem,zbp] at ih;refine ⟨λx hx=>?_,zax.2 ⟨λx hx=>?_,ih.2⟩⟩
   ·rcases zaq.1 hx with rfl|hx
    ·exact h1
    ·exact ih.1 x hx
   ·rcases zaq.1 hx with rfl|hx
    ·exact h3
    ·have h4:=(zax.1 ih.2).1 x hx;unfold rZ at h1;unfold Ap at h3 h4 ⊢;omega
  ·rintro ⟨h1,h2⟩;have h3:=zax.1 h2;have hr:=h1 r (zaj ..);exact ⟨⟨hr,h3.1 r (zaj ..)⟩,(yc (some r) t (λp hp=>by cases hp;exact hr)).2 ⟨λx hx=>h1 x (zah _ hx),by simpa using h3.2⟩⟩
theorem NI (l:List Range):yb none l=true↔Can l:=by
 rw [yc none l (λp hp=>by cases hp)];simp only [zez,zbx];exact ⟨λh=>⟨h.1,h.2⟩,λh=>⟨h.ok,h.IS⟩⟩
theorem vL (s n:Int):((((decide (s>=1)) && (decide (s<=99))) && (decide (n>=1))) && (decide (n<=999999999)))=decide ((1<=s/\s<=99)/\1<=n/\n<=999999999):=by
 rw [zbz,zcm];simp;omega
theorem WC (l:List Range) (hl:l.length<=100000):rF l=some (yb none l):=by
 unfold rF;have:=bp l (step:=λs=>mA l s) (λs:Int=>s) (λs t=>some (yb (if s=0 then none else some (nth l (s-1).toNat)) t)) (λs t=>s≠0->rZ (nth l (s-1).toNat)) (by omega) (s:=0) ?_ ?_ rfl (by simp)
 ·exact this
 ·intro i _ hi;unfold mA;rw [zaa (by simp only [zak];omega)];exact ⟨_,rfl,by simp [yb]⟩
 ·intro i r t hpv gS fc hx hlen;unfold mA;rw [zab (by simpa using fc),af ⟨gS,fc⟩,hx];simp only [fR,vL,zac,Bool.not_not,gn];have e1:(i+1=0)=False:=by simp;omega
  have e2:(i+1-1).toNat=i.toNat:=by omega
  by_cases hr:rZ r
  ·have Vm:=hr;unfold rZ at Vm;have d1:decide ((1<=r.source/\r.source<=99)/\1<=r.from_/\r.from_<=999999999)=true:=by simp;omega
   have d2:decide ((1<=r.source/\r.source<=99)/\1<=r.iu/\r.iu<=999999999)=true:=by simp;omega
   simp only [d1,d2,zbu,zci,zdc];rw [zaa (by simp;omega)];by_cases h0:i=0
   ·subst h0;rw [af (by simp),af (by simp),af (by simp),af (by simp),af (by simp),af (by simp),af (by simp),zaa (by simp),af (by omega)];refine .inr ⟨_,rfl,λ_=>?_,rfl,?_⟩
    ·rw [e2,hx];exact hr
    ·simp only [e1,zbt,e2,hx,zbu];simp only [yb,zdu hr,zcn]
   ·have hp:=hpv h0;have hgt:i > 0:=by omega
    rw [zaa h0];generalize nth l (i-1).toNat=p at hp ⊢;have Ol:=hp;unfold rZ at Ol;simp only [hgt,zfz,zcn];rw [af (λ_=>by omega),af (λ_=>by omega),af (λ_=>by omega),af (λ_=>by omega),af (λ_=>by omega),af (λ_=>by omega),af (λ_=>by omega)];by_cases cE:Ap p r
    ·have kU:=cE;unfold Ap at kU;rw [zaa (by simp;omega),af (by omega)];refine .inr ⟨_,rfl,λ_=>?_,rfl,?_⟩
     ·rw [e2,hx];exact hr
     ·simp only [e1,zbt,e2,hx];simp only [yb,zdu (And.intro hr cE),zcn]
    ·have kU:=cE;unfold Ap at kU;rw [zab (by simp;omega)];exact .inl ⟨_,rfl,by simp only [yb,zdf (λh:rZ r/\Ap p r=>cE h.2),zct]⟩
  ·have Vm:=hr;unfold rZ at Vm;rw [zab (by
    by_cases d1:(1<=r.source/\r.source<=99)/\1<=r.from_/\r.from_<=999999999
    ·by_cases d2:(1<=r.source/\r.source<=99)/\1<=r.iu/\r.iu<=999999999
     ·simp only [zdu d1,zdu d2,zbu,zci,zdc,zak];omega
     ·simp only [zdu d1,zdf d2,zbu,zci,zcj,zdc,zes]
    ·simp only [zdf d1,zcj,zes])]
   refine .inl ⟨_,rfl,?_⟩;by_cases h0:i=0
   ·simp [h0,yb,hr]
   ·simp [h0,yb,hr]
def hasB (l:List Range) (s n:Int):Bool:=l.any λr=>decide (r.source=s/\r.from_<=n/\n<=r.iu)
def FL (s n:Int):Bool:=decide ((1<=s/\s<=99)/\1<=n/\n<=999999999)
theorem Mv (l:List Range) (s n:Int) (hl:l.length<=100000):qG l s n=some (hasB l s n && FL s n):=by
 unfold qG;refine bp l (λst:Int=>st) (λst t=>some (hasB t s n && FL s n)) (λst t=>True) (by omega) ?_ ?_ rfl trivial
 ·intro i _ hi;unfold sJ;rw [zaa (by simp only [zak];omega)];exact ⟨_,rfl,by simp [hasB]⟩
 ·intro i r t _ gS fc hx hlen;unfold sJ;rw [zab (by simpa using fc),af ⟨gS,fc⟩,af (λ_=>⟨gS,fc⟩),af (λ_=>⟨gS,fc⟩),hx];by_cases h:r.source=s/\r.from_<=n/\n<=r.iu
  ·rw [zab (by simp [h.1,h.2.1,h.2.2])];simp only [fR,vL,zac];exact .inl ⟨_,rfl,by simp [hasB,h,FL]⟩
  ·rw [zaa (by simp only [zas,zdw,zak];exact λhh=>h ⟨hh.1.1,hh.1.2,hh.2⟩),af (by omega)]
   refine .inr ⟨_,rfl,trivial,rfl,?_⟩;unfold hasB;rw [zdt,zdf h,zdc]
def Fl (s:Int):List Range->Int
 | []=>0
 | r::t=>(if r.source=s then r.iu-r.from_+1 else 0)+Fl s t
def Cz (s:Int):List Head->Int
 | []=>0
 | h::t=>(if h.source=s then h.count else 0)+Cz s t
def WD (l:List Range) (hs:List Head):Nat->Int->Bool
 | 0,_=>true
 | m+1,s=>decide (Fl s l<=Cz s hs) && WD l hs m (s+1)
theorem Zr (v:aF) (s n:Int) (hs:1<=s/\s<=99) (hh:∀ h,h∈v.aO->Gv h) (hl:v.aO.length<=100000) (hn:0<=n/\n<=100000000000000):iJ v s n=some (if n-Cz s v.aO > 0 then .inr false else .inl (s+1)):=by
 unfold iJ;refine bp v.aO (λst:Int×Int=>st.2) (λst t=>(some (if st.1-Cz s t > 0 then Sum.inr false else Sum.inl (s+1)):Option (Int ⊕ Bool))) (λst t=>(-5000*st.2<=st.1/\st.1<=100000000000000)/\∀ h,h∈t->Gv h) (by omega) ?_ ?_ (s:=(n,(0:Int))) rfl ⟨by simp only;omega,hh⟩
 ·rintro ⟨k,i⟩ ⟨hb,_⟩ hi;simp only at hb hi ⊢;unfold nt kz;rw [zaa (by simp only [zak];omega)];simp only [Cz,Int.sub_zero,zak];by_cases h:k > 0
  ·rw [zab h,zab h];exact ⟨_,rfl,rfl⟩
  ·rw [zaa h,zaa h,af (by omega)];exact ⟨_,rfl,rfl⟩
 ·rintro ⟨k,i⟩ h t ⟨hb,ht⟩ gS fc hx hlen;simp only at hb ht gS fc hx hlen ⊢;have ho:=ht h (zaj ..);unfold Gv at ho;unfold nt;rw [zab (by simpa using fc),af ⟨gS,fc⟩,hx];by_cases he:h.source=s
  ·rw [zab (by simpa using he),af ⟨gS,fc⟩,af (by omega),af (by omega)];refine .inr ⟨_,rfl,⟨by simp only;omega,λx hx=>ht x (zah _ hx)⟩,rfl,?_⟩
   simp only [Cz,he,zbu];rw [show k-h.count-Cz s t=k-(h.count+Cz s t) from by omega]
  ·rw [zaa (by simpa using he),af (by omega)];refine .inr ⟨_,rfl,⟨by simp only;omega,λx hx=>ht x (zah _ hx)⟩,rfl,?_⟩
   simp only [Cz,he,zbt,Int.zero_add]
theorem Zs (v:aF) (s:Int) (hs:1<=s/\s<=99) (hh:∀ h,h∈v.aO->Gv h) (hr:∀ r,r∈v.seen->rZ r) (hl:v.aO.length<=100000) (zl:v.seen.length<=10000):loop (λst:Int×Int=>gx v s st.1 st.2) (0,0)=some (if Fl s v.seen-Cz s v.aO > 0 then .inr false else .inl (s+1)):=by
 refine (bp v.seen (λst:Int×Int=>st.2) (λst t=>(some (if (st.1+Fl s t) - Cz s v.aO > 0 then Sum.inr false else Sum.inl (s+1)):Option (Int ⊕ Bool))) (λst t=>(0<=st.1/\st.1<=st.2*1000000000)/\∀ r,r∈t->rZ r) (by omega) ?_ ?_ (s:=((0:Int),(0:Int))) rfl ⟨by simp,hr⟩).trans (by simp)
 ·rintro ⟨k,i⟩ ⟨hb,_⟩ hi;simp only at hb hi ⊢;unfold gx;rw [zaa (by simp only [zak];omega),Zr v s k hs hh hl (by omega)];exact ⟨_,rfl,by simp [Fl]⟩
 ·rintro ⟨k,i⟩ r t ⟨hb,ht⟩ gS fc hx hlen;simp only at hb ht gS fc hx hlen ⊢;have ho:=ht r (zaj ..);unfold rZ at ho;unfold gx;rw [zab (by simpa using fc),af ⟨gS,fc⟩,hx];by_cases he:r.source=s
  ·rw [zab (by simpa using he),af ⟨gS,fc⟩,af (by omega),af ⟨gS,fc⟩,af (by omega),af (by omega),af (by omega)];refine .inr ⟨_,rfl,⟨by simp only;omega,λx hx=>ht x (zah _ hx)⟩,rfl,?_⟩
   simp only [Fl,he,zbu];rw [show k+r.iu-r.from_+1+Fl s t=k+(r.iu-r.from_+1+Fl s t) from by omega]
  ·rw [zaa (by simpa using he),af (by omega)];refine .inr ⟨_,rfl,⟨by simp only;omega,λx hx=>ht x (zah _ hx)⟩,rfl,?_⟩
   simp only [Fl,he,zbt,Int.zero_add]
theorem Mw (v:aF) (hh:∀ h,h∈v.aO->Gv h) (hr:∀ r,r∈v.seen->rZ r) (hl:v.aO.length<=100000) (zl:v.seen.length<=10000):oq v=some (WD v.seen v.aO 99 1):=by
 unfold oq;refine ng (λs:Int=>some (WD v.seen v.aO (100-s).toNat s)) (λs=>1<=s/\s<=100) (λs=>(100-s).toNat) ?_ (s:=1) (by decide) (by decide);rintro s ⟨h1,h2⟩;unfold qF;by_cases hs:s<=99
 ·rw [zab (by simpa using hs),Zs v s ⟨h1,hs⟩ hh hr hl zl,show (100-s).toNat=(100-(s+1)).toNat+1 from by omega];simp only [WD];by_cases hc:Fl s v.seen-Cz s v.aO > 0
  ·rw [zab hc];exact .inl ⟨_,rfl,by rw [zdf (by omega),zct]⟩
  ·rw [zaa hc];exact .inr ⟨s+1,rfl,by omega,by omega,by rw [zdu (show Fl s v.seen<=Cz s v.aO by omega),zcn]⟩
 ·rw [zaa (by simpa using hs)];have:s=100:=by omega
  subst this;exact .inl ⟨_,rfl,rfl⟩
def Aq (a b:aa):Bool:=decide (a.source=b.source) && decide (a.aI=b.aI)
def Zt (l:List Range):List aa->List aa->Bool
 | _,[]=>true
 | d,r::t=>(hasB l r.source r.aI && FL r.source r.aI) && !(d.any λx=>Aq x r) && Zt l (d++[r]) t
def Xx (v:aF):Bool:=Re [] v.aO && yb none v.seen && (ze none v.open_ && SX v.open_ v.open_) && WD v.seen v.aO 99 1 && Zt v.seen [] v.open_
structure SmI (v:aF):Prop where
 seen:v.seen.length<=1000
 aO:v.aO.length<=1000
 opens:v.open_.length<=1000
 sm:∀ r,r∈v.open_->Sm r
theorem WE (v:aF) (i:Int) (gS:0<=i) (fc:i<(v.open_.length:Int)) (hl:v.open_.length<=1000):loop (λs=>mF v i s) 0=some (if ((v.open_.take i.toNat).any λx=>Aq x (nth v.open_ i.toNat))=true then .inr false else .inl (i+1)):=by
 have eN:(v.open_.take i.toNat).length=i.toNat:=by rw [zbe];omega
 refine bp (v.open_.take i.toNat) (λs:Int=>s) (λs t=>(some (if (t.any λx=>Aq x (nth v.open_ i.toNat))=true then Sum.inr false else Sum.inl (i+1)):Option (Int ⊕ Bool))) (λs t=>True) (by omega) ?_ ?_ rfl trivial
 ·intro k _ hk;unfold mF;rw [zaa (by simp only [zak];omega),af (by omega)];exact ⟨_,rfl,rfl⟩
 ·intro k x t _ QH cH hx hlen;have jK:nth v.open_ k.toNat=x:=by rw [←hx,nM (by omega),nM (by omega),List.getElem_take]
  unfold mF;rw [zab (by simp only [zak];omega),af (by omega),af (λ_=>by omega),jK];rw [zdt];by_cases h:Aq x (nth v.open_ i.toNat)=true
  ·have h':=h;simp only [Aq,zas,zak] at h';rw [zab (by simp [h'.1,h'.2]),h,zes];exact .inl ⟨_,rfl,rfl⟩
  ·have h':=h;simp only [Aq,zas,zak] at h';rw [zaa (by simpa using h'),af (by omega),zff.2 h,zdc];exact .inr ⟨_,rfl,trivial,rfl,rfl⟩
theorem Zu (v:aF) (hs:SmI v):rG v=some (Xx v):=by
 unfold rG Xx;rw [Rf v (by have:=hs.aO;omega)];simp only [zac,Bool.not_not];cases h1:Re [] v.aO with
 | false=>simp [b9]
 | true =>
  have hh:=Fk h1;simp only [b9,zbu];rw [WC v.seen (by have:=hs.seen;omega)];simp only [zac];cases h2:yb none v.seen with
  | false=>simp
  | true =>
   have hc:=(NI _).1 h2;simp only [zci,zfs,zcj,zbu];rw [SY v.open_ hs.sm hs.opens];simp only [zac];cases h3:(ze none v.open_ && SX v.open_ v.open_) with
   | false=>simp
   | true =>
    simp only [zci,zfs,zcj,zbu];rw [Mw v hh hc.ok (by have:=hs.aO;omega) (by have:=hs.seen;omega)];simp only [zac];cases h4:WD v.seen v.aO 99 1 with
    | false=>simp
    | true =>
     simp only [zci,zfs,zaz,zbt,zcn];have hol:=hs.opens;refine (bp v.open_ (step:=λs=>mG v s) (λs:Int=>s) (λs t=>some (Zt v.seen (v.open_.take s.toNat) t)) (λs t=>True) (by omega) (s:=0) ?_ ?_ rfl trivial)
     ·intro i _ hi;unfold mG;rw [zaa (by simp only [zak];omega)];exact ⟨_,rfl,rfl⟩
     ·intro i r t _ gS fc hx hlen;unfold mG;rw [zab (by simpa using fc),af ⟨gS,fc⟩,hx,Mv v.seen r.source r.aI (by have:=hs.seen;omega)];simp only [zac,Zt];cases h5:(hasB v.seen r.source r.aI && FL r.source r.aI) with
      | false =>
       rw [zab (by rfl)];exact .inl ⟨_,rfl,by simp⟩
      | true =>
       rw [zaa (by simp),WE v i gS fc hol,hx];cases h6:((v.open_.take i.toNat).any λx=>Aq x r) with
       | true =>
        rw [zab rfl];exact .inl ⟨_,rfl,by simp⟩
       | false =>
        rw [zaa (by simp)];refine .inr ⟨_,rfl,trivial,rfl,?_⟩;rw [show (i+1).toNat=i.toNat+1 from by omega,pj (by omega),hx];simp
structure CA (v:aF):Prop where
 aO:Re [] v.aO=true
 can:Can v.seen
 opn:Z5 v.open_
 FR:WD v.seen v.aO 99 1=true
 ids:Zt v.seen [] v.open_=true
theorem NJ (v:aF):Xx v=true↔CA v:=by
 unfold Xx;simp only [zas];rw [NI];constructor
 ·rintro ⟨⟨⟨⟨h1,h2⟩,h3⟩,h4⟩,h5⟩;exact ⟨h1,h2,(NB _).1 (by simpa using h3),h4,h5⟩
 ·rintro ⟨h1,h2,h3,h4,h5⟩;exact ⟨⟨⟨⟨h1,h2⟩,by simpa using (NB _).2 h3⟩,h4⟩,h5⟩
theorem Head.wK (h:Head):ew h.bP h.bP=true:=by simp [Head.bP,ew,LO]
theorem Range.wK (h:Range):ew h.bP h.bP=true:=by simp [Range.bP,ew,LO]
theorem ag.wK (h:ag):ew h.bP h.bP=true:=by simp [ag.bP,ew,LO]
theorem KR (a:List aa) (hl:a.length<=10000):qL a a=some true:=by
 unfold qL;rw [zaa (by simp),tO a (λ_=>true) true true (by omega) (λi h0 h1=>?_) (λi hi=>?_)]
 ·simp
 ·unfold ri;rw [zab (by simpa using h1),af (by omega),af (by omega),zaa (by rw [aa.wK];simp),af (by omega)];rfl
 ·unfold ri;rw [zaa (by simp;omega)]
theorem Rg (a:List Range) (hl:a.length<=10000):tB a a=some true:=by
 unfold tB;rw [zaa (by simp),tO a (λ_=>true) true true (by omega) (λi h0 h1=>?_) (λi hi=>?_)]
 ·simp
 ·unfold rh;rw [zab (by simpa using h1),af (by omega),af (by omega),zaa (by rw [Range.wK];simp),af (by omega)];rfl
 ·unfold rh;rw [zaa (by simp;omega)]
theorem Rh (v:aF) (h1:v.seen.length<=10000) (h2:v.open_.length<=10000) (h3:v.aO.length<=10000):tC v v=some true:=by
 unfold tC;rw [zaa (by simp),tO v.aO (λ_=>true) true true (by omega) (λi h0 h1=>?_) (λi hi=>?_)]
 ·simp
 ·unfold rj;rw [zab (by simpa using h1),af (by omega),af (by omega),zaa (by rw [Head.wK];simp),af (by omega)];rfl
 ·unfold rj oA;rw [zaa (by simp;omega),Rg _ h1,KR _ h2];rfl
theorem Fm (s:Int):∀ (k:Int) (l:List Head) (h:Head),oF s k (l++[h])=if h.source=s then h.number+1 else oF s k l
 | k,[],h=>by simp only [zbx,oF]
 | k,x::l,h=>by simp only [List.cons_append,oF];exact Fm s _ l h
theorem Ri (v:aF) (s:Int) (hl:v.aO.length<=100000) (xt:∀ h,h∈v.aO->S4 h):iB v s=some (if 1<=s/\s<=99 then oF s 1 v.aO else 0):=by
 unfold iB;by_cases hs:1<=s/\s<=99
 ·rw [zaa (by simp;omega),zab hs,af (by omega)];refine (ng (λi:Int=>some (oF s 1 (v.aO.take (i+1).toNat))) (λi=>-1<=i/\i<(v.aO.length:Int)) (λi=>(i+1).toNat) ?_ (s:=(v.aO.length:Int) - 1) (by omega) (by omega)).trans ?_
  ·rintro i ⟨h1,h2⟩;unfold qy;by_cases h0:i>=0
   ·have hm:nth v.aO i.toNat∈v.aO:=oM (by omega);have ho:=xt _ hm;unfold S4 at ho;rw [zab (by simpa using h0),af (by omega),show (i+1).toNat=i.toNat+1 from by omega,pj (by omega),Fm];by_cases he:(nth v.aO i.toNat).source=s
    ·rw [zab (by simpa using he),af (by omega),af (by omega),zab he];exact .inl ⟨_,rfl,rfl⟩
    ·rw [zaa (by simpa using he),af (by omega),zaa he];exact .inr ⟨i-1,rfl,by omega,by omega,by rw [show i-1+1=i from by omega]⟩
   ·rw [zaa (by simpa using h0)];have:i=-1:=by omega
    subst this;exact .inl ⟨_,rfl,rfl⟩
  ·rw [show ((v.aO.length:Int) - 1+1).toNat=v.aO.length from by omega,List.take_length]
 ·rw [zab (by simp;omega),zaa hs]
theorem S5 (v:aF) (s:Int) (hl:v.aO.length<=100000) (xt:∀ h,h∈v.aO->S4 h):tw v s=some (if 1<=s/\s<=99 then oF s 1 v.aO else 0):=by
 unfold tw;by_cases hs:1<=s/\s<=99
 ·have:=NH v.aO v.aO.length s (zap _) hl (by rw [List.take_length];exact xt);rw [List.take_length] at this;rw [zaa (by simp;omega),zab hs,this];rfl
 ·rw [zab (by simp;omega),zaa hs]
theorem Head.eq_iff (a b:Head):ew a.bP b.bP=true↔a=b:=by cases a;cases b;simp [Head.bP,ew,LO]
theorem aa.eq_iff (a b:aa):ew a.bP b.bP=true↔a=b:=by cases a;cases b;simp [aa.bP,ew,LO]
theorem KS {S R:Type} {step:S->Option (S ⊕ R)} {n:Nat} {s s':S} (h:step s=some (.inl s')):iter step (n+1) s=iter step n s':=by simp [iter,h]
theorem vM {S R:Type} {step:S->Option (S ⊕ R)} {n:Nat} {s:S} {r:R} (h:step s=some (.inr r)):iter step (n+1) s=some r:=by simp [iter,h]
theorem half {i j:Int} (h0:0<=i) (h1:i<=1000000) (h2:0<=j) (h3:j<=1000000):IntKind.wrap .i64 (Int.fdiv (IntKind.wrap .u64 (i+j)) (2 ^ (min (Int.toNat (1)) 64)))=(i+j) / 2:=by
 have e1:IntKind.wrap .u64 (i+j)=i+j:=by
  have:IntKind.wrap .u64 (i+j)=(i+j) % 18446744073709551616:=rfl;rw [this];omega
 have e2:Int.fdiv (i+j) (2 ^ (min (Int.toNat (1)) 64))=(i+j) / 2:=by
  rw [Int.fdiv_eq_ediv_of_nonneg _ (by decide)];rfl
 rw [e1,e2];exact UG (by omega) (by omega)
def PL (s n:Int) (r:Range):Prop:=r.source > s∨(r.source=s/\r.iu>=n)
instance (s n:Int) (r:Range):Decidable (PL s n r):=by unfold PL;infer_instance
theorem DR {s n:Int} {a b:Range} (h:Ap a b) (hb:rZ b) (hp:PL s n a):PL s n b:=by
 unfold PL Ap rZ at *;omega
def yC (s n:Int) (l:List Range):Nat:=(l.takeWhile λr=>!decide (PL s n r)).length
theorem Mx (s n:Int) (l:List Range):yC s n l<=l.length:=(List.takeWhile_sublist _).length_le
theorem yd (s n:Int) (r:Range) (l:List Range):yC s n (r::l)=if PL s n r then 0 else yC s n l+1:=by
 unfold yC;rw [List.takeWhile_cons];by_cases h:PL s n r <;> simp [h]
theorem KT (s n:Int):∀ {l:List Range} {k:Nat},k<=l.length->(∀ j,j<k->¬PL s n (nth l j))->(k<l.length->PL s n (nth l k))->yC s n l=k
 | [],k,hk,_,_=>by simp at hk;subst hk;rfl
 | r::l,0,_,_,h=>by
  rw [yd,zab];have:=h (by simp)
  rwa [eY] at this
 | r::l,k+1,hk,h1,h2=>by
  have:=h1 0 (by omega);rw [eY] at this;rw [yd,zaa this,KT s n (k:=k) (by simpa using hk) (λj hj=>by
   have:=h1 (j+1) (by omega)
   rwa [eG] at this) (λhk=>by
   have:=h2 (by simpa using hk)
   rwa [eG] at this)]
theorem Can.mono {l:List Range} (h:Can l) {s n:Int} {i j:Nat} (M3:i<=j) (hj:j<l.length) (hp:PL s n (nth l i)):PL s n (nth l j):=by
 by_cases e:i=j
 ·subst e;exact hp
 ·have:=List.pairwise_iff_getElem.1 h.IS i j (by omega) hj (by omega);rw [←nM,←nM] at this;exact DR this (h.ok _ (oM hj)) hp
theorem Fo (l:List Range) (s n:Int) (hc:Can l) (hl:l.length<=100000):jQ (l.length:Int) l s n=some (yC s n l:Int):=by
 unfold jQ;obtain ⟨r,h1,h2⟩:=qp (step:=λst:Int×Int=>iH l s n st.1 st.2) (λr=>r=(yC s n l:Int)) (λst:Int×Int=>0<=st.1/\st.1<=st.2/\st.2<=(l.length:Int)/\(∀ k:Nat,(k:Int)<st.1->¬PL s n (nth l k))/\(st.2<(l.length:Int)->PL s n (nth l st.2.toNat))) (λst=>(st.2-st.1).toNat) (by
  rintro ⟨i,j⟩ ⟨a0,a1,a2,a3,a4⟩;simp only at a0 a1 a2 a3 a4 ⊢;unfold iH jr;by_cases h:i<j
  ·rw [zab (by simpa using h),af (by omega),af (by omega),half a0 (by omega) (by omega) (by omega),af (by omega)];simp only [zac];have e:((decide ((nth l ((i+j) / 2).toNat).source > s)) || ((((nth l ((i+j) / 2).toNat).source)==s) && (decide (((nth l ((i+j) / 2).toNat).iu)>=n))))=decide (PL s n (nth l ((i+j) / 2).toNat)):=by
    rw [zbz];unfold PL;simp
   rw [e];by_cases hp:PL s n (nth l ((i+j) / 2).toNat)
   ·rw [zaa (by simp [hp])];exact .inr ⟨_,rfl,⟨by omega,by simp only;omega,by simp only;omega,a3,λ_=>hp⟩,by simp only;omega⟩
   ·rw [zab (by simp [hp]),af (by omega)];refine .inr ⟨_,rfl,⟨by simp only;omega,by simp only;omega,a2,λk hk Z2=>hp (hc.mono (i:=k) (by simp only at hk;omega) (by omega) Z2),a4⟩,by simp only;omega⟩
  ·rw [zaa (by simpa using h)];refine .inl ⟨_,rfl,?_⟩;have e:j=i:=by omega
   subst e;have:=KT s n (l:=l) (k:=j.toNat) (by omega) (λk hk=>a3 k (by omega)) (λhk=>a4 (by omega));omega) (s:=((0:Int),(l.length:Int))) ⟨by simp,by simp,by simp,λk hk=>by simp only at hk;omega,λh=>by simp at h⟩ (by simp only;omega)
 rw [h1,h2]
theorem S6 {l:List Range} (hc:Can l) (s n:Int):hasB l s n=(decide (yC s n l<l.length) && (decide ((nth l (yC s n l)).source=s) && decide ((nth l (yC s n l)).from_<=n))):=by
 induction l with
 | nil=>rfl
 | cons r l ih =>
  have hs:=zax.1 hc.IS;have rX:Can l:=⟨λx hx=>hc.ok x (zah _ hx),hs.2⟩;rw [yd];by_cases hp:PL s n r
  ·rw [zab hp,eY];have hr:=hc.ok r (zaj ..);unfold hasB;rw [zdt];by_cases hh:r.source=s/\r.from_<=n
   ·have:n<=r.iu:=by unfold PL at hp;omega
    simp [hh.1,hh.2,this]
   ·have h1:decide (r.source=s/\r.from_<=n/\n<=r.iu)=false:=zdf (λh=>hh ⟨h.1,h.2.1⟩);have h2:(l.any λr=>decide (r.source=s/\r.from_<=n/\n<=r.iu))=false:=by
     rw [zfg];intro x hx ZX;have ZX:=zcp ZX;have h3:=hs.1 x hx;unfold PL Ap rZ at *;omega
    rw [h1,h2,zds];have:(decide (r.source=s) && decide (r.from_<=n))=false:=by
     rw [←Bool.decide_and];exact zdf hh
    rw [this,Bool.and_false]
  ·rw [zaa hp,eG];have:hasB (r::l) s n=hasB l s n:=by
    unfold hasB;rw [zdt,zdf (by unfold PL at hp;omega),zdc]
   rw [this,ih rX];simp
theorem Zv (l:List Range) (s n:Int) (hc:Can l) (hl:l.length<=100000):mn l s n=some (hasB l s n && FL s n):=by
 unfold mn oe;rw [Fo l s n hc hl];have hle:=Mx s n l;simp only [zac,dY,vL];rw [af (λh=>by simp at h;omega),af (λh=>by simp at h;omega),S6 hc];congr 1;unfold FL;rw [show ((yC s n l:Nat):Int).toNat=yC s n l from by omega];have e:decide (((yC s n l:Nat):Int)<(l.length:Int))=decide (yC s n l<l.length):=by
  rw [zbz,zcm,zcm];omega
 rw [e];generalize decide ((1<=s/\s<=99)/\1<=n/\n<=999999999)=b1;generalize decide (yC s n l<l.length)=b2;rw [show ((nth l (yC s n l)).source==s)=decide ((nth l (yC s n l)).source=s) from rfl];generalize decide ((nth l (yC s n l)).source=s)=b3;generalize decide ((nth l (yC s n l)).from_<=n)=b4;cases b1 <;> cases b2 <;> cases b3 <;> cases b4 <;> rfl
instance:DecidableEq aa:=λa b=>decidable_of_iff _ (aa.eq_iff a b)
def TL (s n:Int) (r:Range):Prop:=r.source=s/\r.iu+1=n
def TR (s n:Int) (r:Range):Prop:=r.source=s/\r.from_-1=n
instance (s n:Int) (r:Range):Decidable (TL s n r):=by unfold TL;infer_instance
instance (s n:Int) (r:Range):Decidable (TR s n r):=by unfold TR;infer_instance
def dA (s n:Int) (out:List Range) (done:Bool) (f t:Int):List Range->List Range
 | []=>if done=true then out else out++[⟨s,f,t⟩]
 | r::l=>if TL s n r then dA s n out done r.from_ t l
  else if TR s n r then dA s n out done f r.iu l
  else if done=true∨¬PL s n r then dA s n (out++[r]) done f t l
  else dA s n (out++[⟨s,f,t⟩,r]) true f t l
def xh (s n f:Int):List Range->List Range
 | []=>[⟨s,f,n⟩]
 | r::l=>if TR s n r then ⟨s,f,r.iu⟩::l else ⟨s,f,n⟩::r::l
def qe (s n:Int):List Range->List Range
 | []=>[⟨s,n,n⟩]
 | r::l=>if PL s n r then xh s n n (r::l) else if TL s n r then xh s n r.from_ l else r::qe s n l
theorem I0 {s n f t:Int}:∀ {l out:List Range},(∀ r,r∈l->¬TL s n r/\¬TR s n r)->dA s n out true f t l=out++l
 | [],out,_=>by simp [dA]
 | r::l,out,h=>by
  have hr:=h r (zaj ..);rw [dA,zaa hr.1,zaa hr.2,zab (.inl rfl),I0 (λx hx=>h x (zah _ hx))];simp
theorem S7 {s n f t:Int} {l out:List Range} (h:∀ r,r∈l->PL s n r/\¬TL s n r/\¬TR s n r):dA s n out false f t l=out++⟨s,f,t⟩::l:=by
 cases l with
 | nil=>simp [dA]
 | cons r l =>
  have hr:=h r (zaj ..);rw [dA,zaa hr.2.1,zaa hr.2.2,zaa (by simp [hr.1]),I0 (λx hx=>(h x (zah _ hx)).2)];simp
theorem Zw {s n f:Int} {l out:List Range} (hc:Can l) (h:∀ r,r∈l->PL s n r) (hh:hasB l s n=false):dA s n out false f n l=out++xh s n f l:=by
 cases l with
 | nil=>simp [dA,xh]
 | cons r l =>
  have hr:=h r (zaj ..);have ho:=hc.ok r (zaj ..);have hs:=zax.1 hc.IS;have hn:¬(r.source=s/\r.from_<=n/\n<=r.iu):=by
   have:=zfg.1 hh r (zaj ..);simpa using this
  have h1:¬TL s n r:=by unfold TL;unfold PL at hr;omega
  have h2:∀ x,x∈l->PL s n x/\¬TL s n x/\¬TR s n x:=λx hx=>by
   have h3:=hs.1 x hx;have h4:=h x (zah _ hx);have h5:=hc.ok x (zah _ hx);refine ⟨h4,?_,?_⟩
   ·unfold TL;unfold PL at h4;omega
   ·unfold TR;unfold Ap at h3;unfold rZ at ho;unfold PL at hr;omega
  rw [dA,zaa h1,xh];by_cases h3:TR s n r
  ·rw [zab h3,zab h3,S7 h2]
  ·rw [zaa h3,zaa h3,zaa (by simp [hr]),I0 (λx hx=>(h2 x hx).2)];simp
theorem Can.tail {r:Range} {l:List Range} (h:Can (r::l)):Can l:=⟨λx hx=>h.ok x (zah _ hx),(zax.1 h.IS).2⟩
theorem Bx {r:Range} {l:List Range} {s n:Int} (h:hasB (r::l) s n=false):hasB l s n=false:=by
 unfold hasB at *;rw [zdt,Bool.or_eq_false_iff] at h;exact h.2
theorem Rj {s n:Int}:∀ {l out:List Range},Can l->hasB l s n=false->dA s n out false n n l=out++qe s n l
 | [],out,_,_=>by simp [dA,qe]
 | r::l,out,hc,hh=>by
  have ho:=hc.ok r (zaj ..);have hs:=zax.1 hc.IS;by_cases hp:PL s n r
  ·rw [qe,zab hp];exact Zw hc (λx hx=>by
    rcases zaq.1 hx with rfl|hx
    ·exact hp
    ·exact DR (hs.1 x hx) (hc.ok x (zah _ hx)) hp) hh
  ·rw [qe,zaa hp,dA];by_cases h1:TL s n r
   ·rw [zab h1,zab h1];exact Zw hc.tail (λx hx=>by
     have h3:=hs.1 x hx;have h5:=hc.ok x (zah _ hx);unfold TL at h1;unfold Ap at h3;unfold rZ at h5;unfold PL;omega) (Bx hh)
   ·rw [zaa h1,zaa h1,zaa (by unfold TR;unfold PL at hp;unfold rZ at ho;omega),zab (.inr hp),Rj hc.tail (Bx hh)];simp
theorem WG (l:List Range) (s n:Int) (hc:Can l) (hl:l.length<=100000):vz l s n=some (if FL s n=true/\hasB l s n=false then (qe s n l,true) else ([],false)):=by
 unfold vz;simp only [fR,vL,zac,Bool.not_not];rw [show decide ((1<=s/\s<=99)/\1<=n/\n<=999999999)=FL s n from rfl,Mv l s n hl,gn];simp only [zac];cases hi:FL s n with
 | false=>simp
 | true =>
  cases hh:hasB l s n with
  | true=>simp
  | false =>
   rw [zaa (by simp),zab ⟨rfl,rfl⟩];have hi':=zcp hi;refine (bp l (λst:List Range×Bool×Int×Int×Int=>st.2.2.1) (λst t=>some (dA s n st.1 st.2.1 st.2.2.2.1 st.2.2.2.2 t,true)) (λst t=>st.1.length+2*t.length<=500000/\∀ r,r∈t->rZ r) (by omega) ?_ ?_ (s:=(([]:List Range),false,(0:Int),n,n)) rfl ⟨by simp;omega,hc.ok⟩).trans (by simp only;rw [Rj hc hh];simp)
   ·rintro ⟨o,d,i,f,t⟩ ⟨hb,_⟩ hi;simp only at hb hi ⊢;unfold sN pS;rw [zaa (by simp only [zak];omega)];cases d with
    | true=>exact ⟨_,rfl,by simp [dA]⟩
    | false =>
     rw [zab (by rfl),af (by simp;simp at hb;omega)];exact ⟨_,rfl,by simp [dA]⟩
   ·rintro ⟨o,d,i,f,t⟩ r tl ⟨hb,hk⟩ gS fc hx hlen;simp only at hb hk gS fc hx hlen ⊢;simp only [zag] at hb;have hr:=hk r (zaj ..);have MQ:∀ x,x∈tl->rZ x:=λx hx=>hk x (zah _ hx)
    unfold rZ at hr;unfold sN;rw [zab (by simpa using fc),af ⟨gS,fc⟩,hx,af (λ_=>by omega),af (λ_=>by omega)];rw [dA];by_cases h1:TL s n r
    ·have FO:=h1;unfold TL at FO;rw [zab (by simp [FO.1,FO.2]),zab h1,af (by omega)];exact .inr ⟨_,rfl,⟨by simp only;omega,MQ⟩,rfl,rfl⟩
    ·have FO:=h1;unfold TL at FO;rw [zaa (by simpa using FO),zaa h1];by_cases h2:TR s n r
     ·have BN:=h2;unfold TR at BN;rw [zab (by simp [BN.1,BN.2]),zab h2,af (by omega)];exact .inr ⟨_,rfl,⟨by simp only;omega,MQ⟩,rfl,rfl⟩
     ·have BN:=h2;unfold TR at BN;rw [zaa (by simpa using BN),zaa h2];by_cases h3:d=true∨¬PL s n r
      ·rw [zab (by
        unfold PL at h3;simp only [zbv,zas,zdw,zak];rcases h3 with h3|h3
        ·exact .inl (.inl h3)
        ·omega),zab h3,af (by simp;omega),af (by omega)]
       exact .inr ⟨_,rfl,⟨by simp;omega,MQ⟩,rfl,rfl⟩
      ·rw [zaa (by
        unfold PL at h3;simp only [zbv,zas,zdw,zak];rintro ((h4|h4)|h4)
        ·exact h3 (.inl h4)
        ·exact h3 (.inr (by omega))
        ·exact h3 (.inr (by omega))),zaa h3,af (by simp;omega),af (by omega)]
       exact .inr ⟨_,rfl,⟨by simp;omega,MQ⟩,rfl,rfl⟩
theorem My {α:Type} [Inhabited α] {A B:List α} {x:α} {p:Nat} (h:A.length=p):nth (A++x::B) p=x:=by
 subst h;rw [nM (by simp)];simp
theorem NK {α:Type} [Inhabited α] {A B:List α} {x b:α} {p:Nat} (h:A.length=p):nth (A++x::b::B) (p+1)=b:=by
 have:=My (A:=A++[x]) (B:=B) (x:=b) (p:=p+1) (by simp [h])
 rwa [zat,zbp] at this
theorem NL {α:Type} {A B:List α} {x y:α} {p:Nat} (h:A.length=p):(A++x::B).set p y=A++y::B:=by
 subst h;simp
theorem NM {α:Type} {A B:List α} {x b:α} {p:Nat} (h:A.length=p):(A++x::b::B).take (p+1)++(A++x::b::B).drop (p+2)=A++x::B:=by
 subst h;have e1:(A++x::b::B).take (A.length+1)=A++[x]:=by
  rw [show A++x::b::B=(A++[x])++b::B from by simp,zdx (by simp),zbw (by simp)]
 have e2:(A++x::b::B).drop (A.length+2)=B:=by
  rw [show A++x::b::B=(A++[x,b])++B from by simp,show A.length+2=(A++[x,b]).length from by simp,zfb]
 rw [e1,e2];simp
def wL:List Range->Range->List Range->List Range
 | [],x,B=>x::B
 | [a],x,B=>if a.source=x.source/\a.iu+1=x.from_ then ⟨a.source,a.from_,x.iu⟩::B else a::x::B
 | a::b::A,x,B=>a::wL (b::A) x B
theorem Hk (x:Range) (B:List Range) (a:Range):∀ (A:List Range),wL (A++[a]) x B=if a.source=x.source/\a.iu+1=x.from_ then A++⟨a.source,a.from_,x.iu⟩::B else A++a::x::B
 | []=>by simp [wL]
 | [c]=>by simp only [zbp,wL];split <;> simp
 | c::d::A=>by
  have:=Hk x B a (d::A);simp only [List.cons_append] at this ⊢;rw [wL,this];split <;> simp
theorem Mz (A B:List Range) (x:Range) (p:Int) (hp:(A.length:Int)=p) (hl:A.length+B.length<=500000) (hA:∀ a,a∈A->rZ a):fJ p (A++x::B)=some (wL A x B):=by
 unfold fJ;rcases List.eq_nil_or_concat A with rfl|⟨A',a,rfl⟩
 ·simp only [zay] at hp;have:p=0:=by omega
  subst this;simp [b9,wL,ck]
 ·rw [List.concat_eq_append] at *;have ha:=hA a (by simp);unfold rZ at ha;simp only [zai,zag,zay] at hp hl;have hgt:p > 0:=by omega
  have e1:(p-1).toNat=A'.length:=by omega
  have e2:p.toNat=A'.length+1:=by omega
  have e3:(p+1).toNat=A'.length+2:=by omega
  rw [zat,zbp];simp only [hgt,zfz,b9,zbu];rw [af (λ_=>by omega),af (λ_=>by simp;omega),af (λ_=>by simp;omega),af (λ_=>by simp;omega),af (λ_=>by simp;omega),e1,e2,My rfl,NK rfl];unfold lM;rw [af (λ_=>by omega)];simp only [zac,zcn];rw [Hk];by_cases h:a.source=x.source/\a.iu+1=x.from_
  ·rw [zab (by simp [h.1,h.2]),zab h,af (by omega),af (by simp;omega),af (by simp),af (by simp;omega),af (by simp),af (by omega),NL rfl];unfold oa;rw [af (by simp;omega),e2,e3,NM rfl];rfl
  ·rw [zaa (by simpa using h),zaa h]
def KU (s n:Int) (A:List Range):List Range->List Range
 | []=>wL A ⟨s,n,n⟩ []
 | b::B'=>if TR s n b then wL A ⟨s,n,b.iu⟩ B' else wL A ⟨s,n,n⟩ (b::B')
theorem Rk {s n:Int} {A B:List Range} (hA:∀ a,a∈A->¬PL s n a) (hB:∀ b,b∈B->PL s n b) (hs:A.Pairwise Ap) (hk:∀ a,a∈A->rZ a):qe s n (A++B)=KU s n A B:=by
 induction A with
 | nil =>
  cases B with
  | nil=>rfl
  | cons b B' =>
   rw [zbx,qe,zab (hB b (zaj ..)),xh];simp only [KU];split <;> rfl
 | cons a A ih =>
  have h1:=hA a (zaj ..);have ih:=ih (λx hx=>hA x (zah _ hx)) (zax.1 hs).2 (λx hx=>hk x (zah _ hx));rw [List.cons_append,qe,zaa h1];cases A with
  | nil =>
   rw [zbx];by_cases h2:TL s n a
   ·rw [zab h2];have BN:=h2;unfold TL at BN;cases B with
    | nil=>simp [xh,KU,wL,BN.1,BN.2]
    | cons b B' =>
     simp only [xh,KU,wL];split <;> simp [BN.1,BN.2]
   ·rw [zaa h2];have BN:¬(a.source=s/\a.iu+1=n):=h2;cases B with
    | nil=>simp [qe,KU,wL,BN]
    | cons b B' =>
     rw [qe,zab (hB b (zaj ..))];simp only [xh,KU,wL];split <;> simp [BN]
  | cons c A' =>
   have h3:=(zax.1 hs).1 c (zaj ..);have h4:=hA c (by simp);have h5:=hk c (by simp);rw [zaa (by unfold TL;unfold Ap at h3;unfold PL at h4;unfold rZ at h5;omega),ih];cases B with
   | nil=>simp only [KU,wL]
   | cons b B' =>
    simp only [KU];split <;> simp only [wL]
theorem KV (s n:Int):∀ (l:List Range),∀ a,a∈l.take (yC s n l)->¬PL s n a
 | [],a,h=>by simp at h
 | r::l,a,h=>by
  rw [yd] at h;by_cases hp:PL s n r
  ·rw [zab hp] at h;simp at h
  ·rw [zaa hp,List.take_succ_cons] at h;rcases zaq.1 h with rfl|h
   ·exact hp
   ·exact KV s n l a h
theorem KW {s n:Int}:∀ {l:List Range},Can l->∀ b,b∈l.drop (yC s n l)->PL s n b
 | [],_,b,h=>by simp at h
 | r::l,hc,b,h=>by
  rw [yd] at h;by_cases hp:PL s n r
  ·rw [zab hp,List.drop_zero] at h;rcases zaq.1 h with rfl|h
   ·exact hp
   ·exact DR ((zax.1 hc.IS).1 b h) (hc.ok b (zah _ h)) hp
  ·rw [zaa hp,List.drop_succ_cons] at h;exact KW hc.tail b h
theorem NN (l:List Range) (s n:Int) (hc:Can l) (hl:l.length<=100000):iC s n l=some (yC s n l:Int):=by
 unfold iC;have e:∀ i j,j7 s n l i j=iH l s n i j:=λi j=>by
  unfold j7 iH;have:∀ k,iR k s n l=jr k l s n:=λk=>by
   unfold iR jr;by_cases h:(0:Int)<=k/\k<(l.length:Int)
   ·rw [af h,af h,af (by omega)]
   ·unfold ck;rw [zaa h,zaa h]
  simp only [this]
 have:kn (l.length:Int) s n l=jQ (l.length:Int) l s n:=by
  unfold kn jQ;simp only [e]
 rw [this,Fo l s n hc hl];rfl
theorem WH (l:List Range) (s n:Int) (hc:Can l) (hl:l.length<=100000):rA s n l=some (hasB l s n && FL s n):=by
 have hp:=NN l s n hc hl;have:=Zv l s n hc hl;have hle:=Mx s n l;unfold mn oe at this;rw [Fo l s n hc hl] at this;unfold rA;rw [hp];simp only [zac,dY] at this ⊢;rw [af (λh=>by simp at h;omega),af (λh=>by simp at h;omega)] at this;rw [af (λh=>by simp at h;omega),af (λh=>by simp at h;omega),af (λh=>by simp at h;omega),af (λh=>by simp at h;omega)];exact this
theorem O6 (A:List Range) (s n:Int) (p:Nat) (hp:iC s n (A++[])=some (p:Int)) (O7:A.length=p) (hl:A.length<=100000) (Ud:∀ a,a∈A->rZ a):gI s n (A++[])=some (wL A ⟨s,n,n⟩ []):=by
 unfold gI;rw [hp,zac];unfold qW;rw [zbq,af ⟨by omega,by omega,by simp,by simp;omega⟩,zac,show ((p:Nat):Int).toNat=p from by omega,zbw (by omega),zdb (by omega),zbq];have hf:decide ((p:Int)+1<((A++[(⟨s,n,n⟩:Range)]).length:Int))=false:=by
  rw [zei,zai,zal];omega
 simp only [hf];rw [af (by omega),af (λh=>absurd h zdz),af (λh=>absurd h zdz),af (λh=>absurd h zdz),af (λh=>absurd h zdz),af (λh=>absurd h zdz)];simp only [b9,zaz,zbt,zac,zct];exact Mz A [] _ _ (by omega) (by rw [zay];omega) Ud
theorem MA (A B':List Range) (b:Range) (s n:Int) (p:Nat) (hp:iC s n (A++b::B')=some (p:Int)) (O7:A.length=p) (hl:A.length+B'.length<=100000) (Ud:∀ a,a∈A->rZ a) (hb:rZ b) (hn:0<=n/\n<=999999999):gI s n (A++b::B')=some (if TR s n b then wL A ⟨s,n,b.iu⟩ B' else wL A ⟨s,n,n⟩ (b::B')):=by
 unfold gI;rw [hp,zac];unfold qW;have e3:((p:Int)+1).toNat=p+1:=by omega
 have e4:((p:Int)+2).toNat=p+2:=by omega
 have hlen:(A++b::B').length=p+(B'.length+1):=by rw [zai,zag,O7]
 rw [af ⟨by omega,by omega,by simp,by rw [hlen,zal];omega⟩,zac,show ((p:Nat):Int).toNat=p from by omega,zdx (by omega),zbw (by omega),show List.drop p (A++b::B')=b::B' from by rw [←O7,zfb],zat,zbp];unfold rZ at hb;have By:(A++(⟨s,n,n⟩:Range)::b::B').length=p+(B'.length+2):=by rw [zai,zag,zag,O7]
 have ht:decide ((p:Int)+1<((A++(⟨s,n,n⟩:Range)::b::B').length:Int))=true:=by rw [zcm,By];omega
 simp only [ht];rw [af (by omega),af (λ_=>by rw [By];omega),af (λ_=>by rw [By];omega),af (λ_=>by omega),af (λ_=>by rw [By];omega),af (λ_=>by rw [By];omega),e3,My O7,NK O7];unfold lM;rw [af (λ_=>by simp only;omega)];simp only [b9,zbu,zac,zcn];by_cases h:TR s n b
 ·have h':=h;unfold TR at h';rw [zab (by simp;omega),zab h,af (by omega),af (by rw [By];omega),af (by rw [By];omega),af (by rw [By];omega),af (by rw [By];omega),af (by omega),af (by omega),NL O7];unfold oa;have Zx:(A++(⟨s,n,b.iu⟩:Range)::b::B').length=p+(B'.length+2):=by rw [zai,zag,zag,O7]
  rw [af (by rw [Zx];omega),e3,e4,NM O7];simp only [zac];exact Mz A B' _ _ (by omega) (by omega) Ud
 ·have h':=h;unfold TR at h';rw [zaa (by simp;omega),zaa h];exact Mz A (b::B') _ _ (by omega) (by rw [zag];omega) Ud
theorem Rl (l:List Range) (s n:Int) (hc:Can l) (hn:0<=n/\n<=999999999) (hl:l.length<=100000):gI s n l=some (qe s n l):=by
 have hp:=NN l s n hc hl;have hle:=Mx s n l;have hA:=KV s n l;have hB:=KW (s:=s) (n:=n) hc;have O7:(l.take (yC s n l)).length=yC s n l:=by rw [zbe];omega
 have hlB:(l.drop (yC s n l)).length=l.length-yC s n l:=by rw [zbi]
 have Ud:∀ a,a∈l.take (yC s n l)->rZ a:=λa ha=>hc.ok a (zev ha)
 have hkB:∀ b,b∈l.drop (yC s n l)->rZ b:=λb hb=>hc.ok b (zcz hb)
 have key:=Rk hA hB (hc.IS.sublist (List.take_sublist _ _)) Ud;have e:=zet (yC s n l) l;cases hBc:l.drop (yC s n l) with
 | nil =>
  rw [hBc] at key e;have:=O6 (l.take (yC s n l)) s n (yC s n l) (by rw [e];exact hp) O7 (by omega) Ud;rw [e] at this key;rw [this,key];rfl
 | cons b B' =>
  rw [hBc] at key e hlB;rw [zag] at hlB;have:=MA (l.take (yC s n l)) B' b s n (yC s n l) (by rw [e];exact hp) O7 (by omega) Ud (hkB b (by rw [hBc];exact zaj ..)) hn;rw [e] at this key;rw [this,key];rfl
def Gw (src:Int):List aa->Int
 | []=>0
 | r::l=>if eb r=0 then (if r.source=src then Gw src l else 8) else eb r
def MB (s n f:Int):Int:=if (s<1∨99<s)∨(n<1∨999999999<n) then 6 else if f<1∨3<f then 7 else 0
def Gx (b:Batch):Int:=if MB b.source b.number b.format=0 then (if 4096<b.records.length then 5 else Gw b.source b.records) else MB b.source b.number b.format
def WI (l:List aa):Prop:=∀ r,r∈l->r.a.length<1000000000/\r.b.length<1000000000
theorem WI.nth {l:List aa} (h:WI l) {k:Nat} (hk:k<l.length):(Go.Abs.nth l k).a.length<1000000000/\(Go.Abs.nth l k).b.length<1000000000:=by
 rw [nM hk];exact h _ (zeu hk)
theorem Rm (b:Batch) (h:WI b.records) (hl:b.records.length<=4096):loop (λs=>gr b s) 0=some (Gw b.source b.records):=by
 have:=ng (step:=λs=>gr b s) (λi:Int=>some (Gw b.source (b.records.drop i.toNat))) (λi=>0<=i/\i<=(b.records.length:Int)) (λi=>((b.records.length:Int) - i).toNat) (λi hI=>by
  obtain ⟨h0,h1⟩:=hI;show (∃ r,gr b i=_/\_)∨∃ s',gr b i=_/\_;unfold gr;by_cases hi:i<(b.records.length:Int)
  ·have hd:=td (l:=b.records) (k:=i.toNat) (by omega);have hs:=h.nth (k:=i.toNat) (by omega);rw [zab (by simpa using hi),af ⟨h0,hi⟩,KE _ hs.1 hs.2,hd];generalize Go.Abs.nth b.records i.toNat=r at *;simp only [zac,Gw];by_cases he:eb r=0
   ·rw [zaa (by simp [he]),zab he];by_cases u9:r.source=b.source
    ·rw [zaa (by simp [u9]),zab u9,af (by omega)];refine .inr ⟨i+1,rfl,⟨by omega,by omega⟩,by omega,?_⟩;rw [show (i+1).toNat=i.toNat+1 from by omega]
    ·rw [zab (by simpa using u9),zaa u9];exact .inl ⟨_,rfl,rfl⟩
   ·rw [zab (by simpa using he),zaa he];exact .inl ⟨_,rfl,rfl⟩
  ·rw [zaa (by simpa using hi),zdb (by omega)];exact .inl ⟨_,rfl,rfl⟩) (s:=0) ⟨by omega,by omega⟩ (by omega)
 simpa using this
theorem O8 (b:Batch) (h:WI b.records) (hl:b.records.length<=4096):loop (λs=>jb b s) 0=some (Gw b.source b.records):=by
 have:=ng (step:=λs=>jb b s) (λi:Int=>some (Gw b.source (b.records.drop i.toNat))) (λi=>0<=i/\i<=(b.records.length:Int)) (λi=>((b.records.length:Int) - i).toNat) (λi hI=>by
  obtain ⟨h0,h1⟩:=hI;show (∃ r,jb b i=_/\_)∨∃ s',jb b i=_/\_;unfold jb;by_cases hi:i<(b.records.length:Int)
  ·have hd:=td (l:=b.records) (k:=i.toNat) (by omega);have hs:=h.nth (k:=i.toNat) (by omega);rw [zab (by simpa using hi),af ⟨h0,hi⟩,KB _ hs.1 hs.2,hd];generalize Go.Abs.nth b.records i.toNat=r at *;simp only [zac,Gw];by_cases he:eb r=0
   ·rw [zaa (by simp [he]),zab he,af ⟨h0,hi⟩];by_cases u9:r.source=b.source
    ·rw [zaa (by simp [u9]),zab u9,af (by omega)];refine .inr ⟨i+1,rfl,⟨by omega,by omega⟩,by omega,?_⟩;rw [show (i+1).toNat=i.toNat+1 from by omega]
    ·rw [zab (by simpa using u9),zaa u9];exact .inl ⟨_,rfl,rfl⟩
   ·rw [zab (by simpa using he),zaa he];exact .inl ⟨_,rfl,rfl⟩
  ·rw [zaa (by simpa using hi),zdb (by omega)];exact .inl ⟨_,rfl,rfl⟩) (s:=0) ⟨by omega,by omega⟩ (by omega)
 simpa using this
theorem WJ (h:Head):jw h=some (if MB h.source h.number h.format=0 then (if h.count<0∨4096<h.count then 5 else 0) else MB h.source h.number h.format):=by
 unfold jw;simp only [iQ,zac,gn];by_cases h1:(h.source<1∨99<h.source)∨(h.number<1∨999999999<h.number)
 ·have e:MB h.source h.number h.format=6:=zab h1;rw [e];show _=some (6:Int);by_cases hs:h.source<1∨99<h.source
  ·rw [zab (by simp;omega)]
  ·have hn:h.number<1∨999999999<h.number:=by omega
   rw [zab (by simp;omega)]
 ·by_cases h2:h.format<1∨3<h.format
  ·have e:MB h.source h.number h.format=7:=by unfold MB;rw [zaa h1,zab h2]
   rw [e];show _=some (7:Int);rw [zaa (by simp;omega),zab (by simp;omega)]
  ·have e:MB h.source h.number h.format=0:=by unfold MB;rw [zaa h1,zaa h2]
   rw [e];show _=some (if h.count<0∨4096<h.count then 5 else 0);rw [zaa (by simp;omega),zaa (by simp;omega)];by_cases h3:h.count<0∨4096<h.count
   ·rw [zab h3,zab (by simp;omega)]
   ·rw [zaa h3,zaa (by simp;omega)]
theorem S8 (s n f:Int):tv s n f=some (MB s n f):=by
 unfold tv MB;by_cases h1:(s<1∨99<s)∨(n<1∨999999999<n)
 ·rw [zab h1,zab (by simp;omega)]
 ·rw [zaa h1,zaa (by simp;omega)];by_cases h2:f<1∨3<f
  ·rw [zab h2,zab (by simp;omega)]
  ·rw [zaa h2,zaa (by simp;omega)]
theorem WK (b:Batch) (h:WI b.records):od b=some (Gx b):=by
 unfold od pt Gx;simp only [zac,WJ];by_cases h1:MB b.source b.number b.format=0
 ·simp only [h1,zbu];by_cases h2:4096<b.records.length
  ·have BN:(b.records.length:Int)<0∨4096<(b.records.length:Int):=by omega
   rw [zab BN,zab h2];rfl
  ·have BN:¬ ((b.records.length:Int)<0∨4096<(b.records.length:Int)):=by omega
   rw [zaa BN,zaa h2];exact Rm b h (by omega)
 ·simp only [zaa h1];rw [zab (by simpa using h1)]
theorem S9 (b:Batch) (h:WI b.records):rO b=some (Gx b):=by
 unfold rO Gx;simp only [zac,S8];by_cases h1:MB b.source b.number b.format=0
 ·rw [zaa (by simp [h1]),zab h1];by_cases h2:4096<b.records.length
  ·rw [zab (by simp;omega),zab h2]
  ·rw [zaa (by simp;omega),zaa h2];exact O8 b h (by omega)
 ·rw [zab (by simpa using h1),zaa h1]
theorem NO {s:Int}:∀ {l:List aa},Gw s l=0->∀ r,r∈l->eb r=0
 | [],_,r,h=>by cases h
 | x::l,hc,r,h=>by
  rw [Gw] at hc;by_cases he:eb x=0
  ·rw [zab he] at hc;by_cases hs:x.source=s
   ·rw [zab hs] at hc;rcases zaq.1 h with rfl|h
    ·exact he
    ·exact NO hc r h
   ·rw [zaa hs] at hc;omega
  ·rw [zaa he] at hc;exact absurd hc he
theorem I1 {b:Batch} (h:Gx b=0):(1<=b.source/\b.source<=99)/\(1<=b.number/\b.number<=999999999)/\(1<=b.format/\b.format<=3)/\b.records.length<=4096/\∀ r,r∈b.records->eb r=0:=by
 unfold Gx at h;by_cases h1:MB b.source b.number b.format=0
 ·rw [zab h1] at h;by_cases h2:4096<b.records.length
  ·rw [zab h2] at h;omega
  ·rw [zaa h2] at h;unfold MB at h1;by_cases h3:(b.source<1∨99<b.source)∨(b.number<1∨999999999<b.number)
   ·rw [zab h3] at h1;omega
   ·rw [zaa h3] at h1;by_cases h4:b.format<1∨3<b.format
    ·rw [zab h4] at h1;omega
    ·exact ⟨by omega,by omega,by omega,by omega,NO h⟩
 ·rw [zaa h1] at h;exact absurd h h1
theorem Rn {r:aa} (h:eb r=0):FL r.source r.aI=true:=by
 have g:=lQ h;have h1:=g.source;have h2:=g.aI;unfold FL;rw [zcm];exact ⟨by omega,by omega⟩
theorem Fp {s n f:Int} {l:List Range} (hc:Can l) (hi:FL s n=true) (hf:1<=f/\f<=n) (h:∀ r,r∈l->PL s n r) (hh:hasB l s n=false):Can (xh s n f l)/\∀ p,rZ p->(Ap p ⟨s,f,n⟩)->(∀ r,r∈l->Ap p r)->∀ x,x∈xh s n f l->Ap p x:=by
 have hi':=zcp hi;cases l with
 | nil =>
  refine ⟨⟨λx hx=>?_,by simp [xh]⟩,λp hp h1 h2 x hx=>?_⟩
  ·simp [xh] at hx;subst hx;unfold rZ;simp only;omega
  ·simp [xh] at hx;subst hx;exact h1
 | cons r l =>
  have hr:=h r (zaj ..);have ho:=hc.ok r (zaj ..);have hs:=zax.1 hc.IS;have hn:¬(r.source=s/\r.from_<=n/\n<=r.iu):=by
   have:=zfg.1 hh r (zaj ..);simpa using this
  rw [xh];by_cases h3:TR s n r
  ·rw [zab h3];unfold TR at h3;have na:=ho;unfold rZ at na;refine ⟨⟨λx hx=>?_,zax.2 ⟨λx hx=>?_,hs.2⟩⟩,λp hp h1 h2 x hx=>?_⟩
   ·rcases zaq.1 hx with rfl|hx
    ·unfold rZ;simp only;omega
    ·exact hc.ok x (zah _ hx)
   ·have:=hs.1 x hx;unfold Ap at this ⊢;simp only;omega
   ·rcases zaq.1 hx with rfl|hx
    ·unfold Ap at h1 ⊢;simp only at h1 ⊢;omega
    ·exact h2 x (zah _ hx)
  ·rw [zaa h3];unfold TR at h3;have na:=ho;unfold rZ at na;have cE:Ap ⟨s,f,n⟩ r:=by
    unfold Ap;unfold PL at hr;simp only;omega
   refine ⟨⟨λx hx=>?_,zax.2 ⟨λx hx=>?_,hc.IS⟩⟩,λp hp h1 h2 x hx=>?_⟩
   ·rcases zaq.1 hx with rfl|hx
    ·unfold rZ;simp only;omega
    ·exact hc.ok x hx
   ·rcases zaq.1 hx with rfl|hx
    ·exact cE
    ·have:=hs.1 x hx;unfold Ap at this cE ⊢;simp only at cE ⊢;omega
   ·rcases zaq.1 hx with rfl|hx
    ·exact h1
    ·exact h2 x hx
theorem Fq {s n:Int} (hi:FL s n=true):∀ {l:List Range},Can l->hasB l s n=false->Can (qe s n l)/\∀ p,rZ p->Ap p ⟨s,n,n⟩->(∀ r,r∈l->Ap p r)->∀ x,x∈qe s n l->Ap p x
 | [],hc,hh=>Fp hc hi (by have:=zcp hi;omega) (by simp) hh
 | r::l,hc,hh=>by
  have hi':=zcp hi;have ho:=hc.ok r (zaj ..);have hs:=zax.1 hc.IS;have na:=ho;unfold rZ at na;by_cases hp:PL s n r
  ·rw [qe,zab hp];exact Fp hc hi (by omega) (λx hx=>by
    rcases zaq.1 hx with rfl|hx
    ·exact hp
    ·exact DR (hs.1 x hx) (hc.ok x (zah _ hx)) hp) hh
  ·rw [qe,zaa hp];by_cases h1:TL s n r
   ·rw [zab h1];have FO:=h1;unfold TL at FO;have:=Fp (f:=r.from_) hc.tail hi (by omega) (λx hx=>by
     have h3:=hs.1 x hx;have h5:=hc.ok x (zah _ hx);unfold Ap at h3;unfold rZ at h5;unfold PL;omega) (Bx hh)
    refine ⟨this.1,λp hq h2 h3 x hx=>this.2 p hq ?_ (λy hy=>h3 y (zah _ hy)) x hx⟩;have:=h3 r (zaj ..);unfold Ap at this ⊢;simp only;omega
   ·rw [zaa h1];unfold TL at h1;unfold PL at hp;obtain ⟨k1,k2⟩:=Fq hi hc.tail (Bx hh);refine ⟨⟨λx hx=>?_,zax.2 ⟨k2 r ho ?_ hs.1,k1.IS⟩⟩,λp hq h2 h3 x hx=>?_⟩
    ·rcases zaq.1 hx with rfl|hx
     ·exact ho
     ·exact k1.ok x hx
    ·unfold Ap;simp only;omega
    ·rcases zaq.1 hx with rfl|hx
     ·exact h3 x (zaj ..)
     ·exact k2 p hq h2 (λy hy=>h3 y (zah _ hy)) x hx
theorem KX (s n f:Int) (l:List Range):(xh s n f l).length<=l.length+1:=by
 cases l with
 | nil=>simp [xh]
 | cons r l=>rw [xh];split <;> simp
theorem Bz (s n:Int):∀ (l:List Range),(qe s n l).length<=l.length+1
 | []=>by simp [qe]
 | r::l=>by
  have h1:=KX s n n (r::l);have h2:=KX s n r.from_ l;have h3:=Bz s n l;rw [qe];split
  ·exact h1
  ·split
   ·simp only [zag];omega
   ·simp only [zag];omega
abbrev Z6:=List Range×List aa×List ag
def Lr (w:bX) (r:aa):Prop:=¬(r.start<w.eA∨r.start > w.iO)
instance (w:bX) (r:aa):Decidable (Lr w r):=by unfold Lr;infer_instance
def Ro (r:aa) (i e:Int):ag:=⟨r.source,r.aI,i,e⟩
def dP (w:bX):List Range->Int->List aa->Z6
  | l,i,[]=>(l,[],[])
  | l,i,r::t =>
    if Lr w r then
      (if hasB l r.source r.aI=false then ((dP w (qe r.source r.aI l) (i+1) t).1,r::(dP w (qe r.source r.aI l) (i+1) t).2.1,(dP w (qe r.source r.aI l) (i+1) t).2.2)
       else ((dP w l (i+1) t).1,(dP w l (i+1) t).2.1,Ro r i 13::(dP w l (i+1) t).2.2))
    else ((dP w l (i+1) t).1,(dP w l (i+1) t).2.1,Ro r i 15::(dP w l (i+1) t).2.2)
def gP:List Range->List (Int×aa)->Z6
 | l,[]=>(l,[],[])
 | l,p::t =>
  if hasB l p.2.source p.2.aI=false then ((gP (qe p.2.source p.2.aI l) t).1,p.2::(gP (qe p.2.source p.2.aI l) t).2.1,(gP (qe p.2.source p.2.aI l) t).2.2)
  else ((gP l t).1,(gP l t).2.1,Ro p.2 p.1 13::(gP l t).2.2)
def pW (w:bX):Int->List aa->List (Int×aa)
 | i,[]=>[]
 | i,r::t=>if Lr w r then (i,r)::pW w (i+1) t else pW w (i+1) t
def nW (w:bX):Int->List aa->List ag
 | i,[]=>[]
 | i,r::t=>if Lr w r then nW w (i+1) t else Ro r i 15::nW w (i+1) t
def Ls:Int->List aa->List (Int×aa)
 | i,[]=>[]
 | i,r::t=>(i,r)::Ls (i+1) t
theorem Hl (w:bX):∀ (t:List aa) (l:List Range) (i:Int),(dP w l i t).1=(gP l (pW w i t)).1/\(dP w l i t).2.1=(gP l (pW w i t)).2.1/\(dP w l i t).2.2.Perm (nW w i t++(gP l (pW w i t)).2.2)
 | [],l,i=>⟨rfl,rfl,zfy _⟩
 | r::t,l,i=>by
  by_cases h:Lr w r
  ·by_cases hh:hasB l r.source r.aI=false
   ·obtain ⟨a,b,c⟩:=Hl w t (qe r.source r.aI l) (i+1);simp only [dP,pW,nW,gP,zab h,zab hh];exact ⟨a,by rw [b],c⟩
   ·obtain ⟨a,b,c⟩:=Hl w t l (i+1);simp only [dP,pW,nW,gP,zab h,zaa hh];exact ⟨a,b,(c.cons _).trans List.perm_middle.symm⟩
  ·obtain ⟨a,b,c⟩:=Hl w t l (i+1);simp only [dP,pW,nW,zaa h];exact ⟨a,b,c.cons _⟩
theorem I2 (w:bX):∀ (t:List aa) (l:List Range) (i:Int),(∀ x,x∈(dP w l i t).2.2->i<=x.index)/\(dP w l i t).2.2.Pairwise (λa b=>a.index<b.index)
 | [],l,i=>⟨λx hx=>by simp [dP] at hx,by simp [dP]⟩
 | r::t,l,i=>by
  by_cases h:Lr w r
  ·by_cases hh:hasB l r.source r.aI=false
   ·obtain ⟨a,b⟩:=I2 w t (qe r.source r.aI l) (i+1);simp only [dP,zab h,zab hh];exact ⟨λx hx=>by have:=a x hx;omega,b⟩
   ·obtain ⟨a,b⟩:=I2 w t l (i+1);simp only [dP,zab h,zaa hh];refine ⟨λx hx=>?_,zax.2 ⟨λx hx=>?_,b⟩⟩
    ·rcases zaq.1 hx with rfl|hx
     ·exact zfi _
     ·have:=a x hx;omega
    ·have:=a x hx;simp only [Ro];omega
  ·obtain ⟨a,b⟩:=I2 w t l (i+1);simp only [dP,zaa h];refine ⟨λx hx=>?_,zax.2 ⟨λx hx=>?_,b⟩⟩
   ·rcases zaq.1 hx with rfl|hx
    ·exact zfi _
    ·have:=a x hx;omega
   ·have:=a x hx;simp only [Ro];omega
theorem I3 (x:ag):∀ (l:List ag),(Dh x l).Perm (x::l)
 | []=>zfy _
 | y::l=>by
  rw [Dh];split
  ·exact zfy _
  ·exact ((I3 x l).cons y).trans (List.Perm.swap x y l)
theorem KY:∀ (l:List ag),(G3 l).Perm l
 | []=>zfy _
 | x::l=>(I3 x _).trans ((KY l).cons x)
theorem NP (x:ag):∀ {l:List ag},l.Pairwise (λa b=>a.index<=b.index)->(Dh x l).Pairwise (λa b=>a.index<=b.index)
 | [],_=>by simp [Dh]
 | y::l,h=>by
  have h':=zax.1 h;rw [Dh];by_cases LW:x.index<=y.index
  ·rw [zab LW];refine zax.2 ⟨λz hz=>?_,h⟩;rcases zaq.1 hz with rfl|hz
   ·exact LW
   ·have:=h'.1 z hz;omega
  ·rw [zaa LW];refine zax.2 ⟨λz hz=>?_,NP x h'.2⟩;rcases zaq.1 ((I3 x l).mem_iff.1 hz) with rfl|hz
   ·omega
   ·exact h'.1 z hz
theorem KZ:∀ (l:List ag),(G3 l).Pairwise (λa b=>a.index<=b.index)
 | []=>List.Pairwise.nil
 | x::l=>NP x (KZ l)
theorem K0:∀ {l l':List ag},l.Pairwise (λa b=>a.index<=b.index)->l'.Pairwise (λa b=>a.index<b.index)->l.Perm l'->l=l'
 | [],l',_,_,p=>by rw [List.Perm.nil_eq p]
 | a::l,[],_,_,p=>by have:=p.length_eq;simp at this
 | a::l,b::l',h,h',p=>by
  have h1:=zax.1 h;have h2:=zax.1 h';have e:a=b:=by
   rcases zaq.1 (p.mem_iff.1 (zaj ..)) with e|ha
   ·exact e
   ·rcases zaq.1 (p.mem_iff.2 (zaj ..)) with e|hb
    ·exact e.symm
    ·have:=h1.1 b hb;have:=h2.1 a ha;omega
  subst e;rw [K0 h1.2 h2.2 p.cons_inv]
theorem WL {l d:List ag} (hd:d.Pairwise (λa b=>a.index<b.index)) (p:d.Perm l) (hl:l.length<=100000):sG l=some d:=by
 unfold sG;have hn:(l.map (·.index)).Nodup:=by
  refine (p.map (·.index)).nodup_iff.1 ?_
  rw [List.Nodup,List.pairwise_map];exact hd.imp (λh=>by omega)
 rw [af ⟨by omega,hn⟩,K0 (KZ l) hd ((KY l).trans p.symm)]
theorem MC (f:Int->Int):∀ (ps:List (Int×aa)) (l:List Range),gP l (ps.map λp=>(f p.1,p.2))=((gP l ps).1,(gP l ps).2.1,(gP l ps).2.2.map λx=>⟨x.source,x.aI,f x.index,x.err⟩)
 | [],l=>rfl
 | p::t,l=>by
  simp only [zao,gP];by_cases hh:hasB l p.2.source p.2.aI=false
  ·simp only [zab hh,MC f t]
  ·simp only [zaa hh,MC f t,zao,Ro]
theorem Rp (full:List Int):∀ (ps:List (Int×aa)) (k:Int),0<=k->(∀ j,j<ps.length->nth full (k.toNat+j)=nth (ps.map (·.1)) j)->(Ls k (ps.map (·.2))).map (λp=>(nth full p.1.toNat,p.2))=ps
 | [],k,_,_=>rfl
 | p::ps,k,h0,h=>by
  have h1:=h 0 (by simp);rw [zde,zao,eY] at h1;simp only [zao,Ls,h1];congr 1;exact Rp full ps (k+1) (by omega) (λj hj=>by
   have:=h (j+1) (by simpa using hj);rw [zao,eG] at this;rw [←this];congr 1;omega)
theorem MD {lo hi:Int}:∀ {ps:List (Int×aa)} {l:List Range},(∀ p,p∈ps->lo<=p.1/\p.1<hi)->∀ x,x∈(gP l ps).2.2->lo<=x.index/\x.index<hi
 | [],l,_,x,hx=>by simp [gP] at hx
 | p::t,l,h,x,hx=>by
  have h':=λq hq=>h q (zah _ hq)
  rw [gP] at hx;by_cases hh:hasB l p.2.source p.2.aI=false
  ·rw [zab hh] at hx;exact MD h' x hx
  ·rw [zaa hh] at hx;rcases zaq.1 hx with rfl|hx
   ·exact h p (zaj ..)
   ·exact MD h' x hx
theorem Rq:∀ (t:List aa) (i:Int) (p:Int×aa),p∈Ls i t->i<=p.1/\p.1<i+t.length
 | [],i,p,h=>by simp [Ls] at h
 | r::t,i,p,h=>by
  rcases zaq.1 h with rfl|h
  ·simp only [zag];omega
  ·have:=Rq t (i+1) p h;simp only [zag];omega
theorem I4:∀ (ps:List (Int×aa)) (l:List Range),(gP l ps).2.1.length+(gP l ps).2.2.length=ps.length/\(gP l ps).1.length<=l.length+ps.length
 | [],l=>by simp [gP]
 | p::t,l=>by
  rw [gP];by_cases hh:hasB l p.2.source p.2.aI=false
  ·have:=I4 t (qe p.2.source p.2.aI l);have h2:=Bz p.2.source p.2.aI l;rw [zab hh];simp only [zag];omega
  ·have:=I4 t l;rw [zaa hh];simp only [zag];omega
theorem ME (w:bX):∀ (t:List aa) (i:Int),(pW w i t).length+(nW w i t).length=t.length
 | [],i=>rfl
 | r::t,i=>by
  have:=ME w t (i+1);rw [pW,nW];by_cases h:Lr w r
  ·rw [zab h,zab h];simp only [zag];omega
  ·rw [zaa h,zaa h];simp only [zag];omega
theorem Fs (w:bX):∀ (t:List aa) (i:Int) (p:Int×aa),p∈pW w i t->i<=p.1/\p.1<i+t.length/\nth t (p.1-i).toNat=p.2/\p.2∈t
 | [],i,p,h=>by simp [pW] at h
 | r::t,i,p,h=>by
  have key:p∈pW w (i+1) t->i<=p.1/\p.1<i+(r::t).length/\nth (r::t) (p.1-i).toNat=p.2/\p.2∈r::t:=λh=>by
   obtain ⟨a,b,c,d⟩:=Fs w t (i+1) p h;refine ⟨by omega,by simp only [zag];omega,?_,zah _ d⟩;rw [show (p.1-i).toNat=(p.1-(i+1)).toNat+1 from by omega,eG];exact c
  rw [pW] at h;by_cases hw:Lr w r
  ·rw [zab hw] at h;rcases zaq.1 h with rfl|h
   ·refine ⟨zfi _,by simp only [zag];omega,?_,zaj ..⟩;rw [show (i-i).toNat=0 from by omega,eY]
   ·exact key h
  ·rw [zaa hw] at h;exact key h
theorem MF:∀ {ps:List (Int×aa)} {l:List Range} {r:aa},r∈(gP l ps).2.1->∃ p,p∈ps/\p.2=r
 | [],l,r,h=>by simp [gP] at h
 | p::t,l,r,h=>by
  rw [gP] at h;by_cases hh:hasB l p.2.source p.2.aI=false
  ·rw [zab hh] at h;rcases zaq.1 h with rfl|h
   ·exact ⟨p,zaj ..,rfl⟩
   ·obtain ⟨q,h1,h2⟩:=MF h;exact ⟨q,zah _ h1,h2⟩
  ·rw [zaa hh] at h;obtain ⟨q,h1,h2⟩:=MF h;exact ⟨q,zah _ h1,h2⟩
theorem Ar:∀ (now l:List aa),(jm now l).1.length+(jm now l).2.length<=now.length+l.length
 | now,[]=>by simp [jm]
 | now,r::l=>by
  have h1:=Cy now r;have h2:=Ar (kR now r).2 l;simp only [jm,zag,zai];omega
theorem Ue (r:aa) (w:bX):jy r w=some (if Lr w r then 0 else 15):=by
 unfold jy;by_cases h:Lr w r
 ·rw [zab h,zaa (by unfold Lr at h;simpa using h)]
 ·rw [zaa h,zab (by unfold Lr at h;have h':=Decidable.not_not.1 h;simpa using h')]
theorem WM (r:aa) (w:bX):sM r w=some (if Lr w r then 0 else 15):=Ue r w
theorem Rr (l:List aa) (w:bX) (hl:l.length<=100000):lE l w=some ((pW w 0 l).map (·.1),nW w 0 l):=by
 unfold lE;refine (bp l (λst:List ag×List Int×Int=>st.2.2) (λst t=>some (st.2.1++(pW w st.2.2 t).map (·.1),st.1++nW w st.2.2 t)) (λst t=>st.1.length+st.2.1.length+t.length<=100000) (by omega) ?_ ?_ (s:=(([]:List ag),([]:List Int),(0:Int))) rfl (by simpa using hl)).trans (by simp)
 ·rintro ⟨y,a,i⟩ _ hi;simp only at hi ⊢;unfold gv;rw [zaa (by simp only [zak];omega)];exact ⟨_,rfl,by simp [pW,nW]⟩
 ·rintro ⟨y,a,i⟩ r t hb gS fc hx hlen;simp only at hb gS fc hx hlen ⊢;simp only [zag] at hb;unfold gv;rw [zab (by simpa using fc),af ⟨gS,fc⟩,hx,Ue,zac];by_cases h:Lr w r
  ·rw [zab h,zaa (by simp),af (by simp only [zal];omega),af (by omega)];refine .inr ⟨_,rfl,by simp only [zai,zal];omega,rfl,?_⟩;simp only [pW,nW,zab h,zao,zat,zbp]
  ·rw [zaa h,zab (by simp),af (by simp only [zal];omega),af (by omega)];refine .inr ⟨_,rfl,by simp only [zai,zal];omega,rfl,?_⟩;simp only [pW,nW,zaa h,Ro,zat,zbp]
theorem Rs (l:List Range) (kW:List aa) (hc:Can l) (hv:∀ r,r∈kW->eb r=0) (hl:l.length+kW.length<=50000):mo l kW=some (gP l (Ls 0 kW)):=by
 unfold mo iy;rw [af (by omega),zac];refine (bp kW (λst:List Range×List aa×Int×List ag=>st.2.2.1) (λst t=>some ((gP st.1 (Ls st.2.2.1 t)).1,st.2.1++(gP st.1 (Ls st.2.2.1 t)).2.1,st.2.2.2++(gP st.1 (Ls st.2.2.1 t)).2.2)) (λst t=>Can st.1/\(st.1.length+t.length<=50000/\st.2.1.length+st.2.2.2.length+t.length<=50000)/\∀ r,r∈t->eb r=0) (by omega) ?_ ?_ (s:=(l,([]:List aa),(0:Int),([]:List ag))) rfl ⟨hc,⟨hl,by simp only [zay];omega⟩,hv⟩).trans (by simp)
 ·rintro ⟨y,o,i,e⟩ _ hi;simp only at hi ⊢;unfold lY jz;rw [zaa (by simp only [zak];omega)];exact ⟨_,rfl,by simp [gP,Ls]⟩
 ·rintro ⟨y,o,i,e⟩ r t ⟨hy,⟨D2,FF⟩,ht⟩ gS fc hx hlen;simp only at hy D2 FF ht gS fc hx hlen ⊢;simp only [zag] at D2 FF;have hr:=ht r (zaj ..);have hid:=Rn hr;have hid':=zcp hid;have r5:∀ x,x∈t->eb x=0:=λx hx=>ht x (zah _ hx)
  unfold lY;rw [zab (by simpa using fc),af ⟨gS,fc⟩,hx];simp only [dY,vL,zac];rw [show decide ((1<=r.source/\r.source<=99)/\1<=r.aI/\r.aI<=999999999)=true from hid,zaa (by simp),WH y _ _ hy (by omega),zac,hid,Bool.and_true];simp only [Ls,gP];by_cases hh:hasB y r.source r.aI=false
  ·rw [zaa (by simp [hh]),zab hh,Rl y _ _ hy (by omega) (by omega),zac,af (by simp only [zal];omega),af (by omega)];have:=Bz r.source r.aI y;refine .inr ⟨_,rfl,⟨(Fq hid hy hh).1,⟨by simp only;omega,by simp only [zai,zal];omega⟩,r5⟩,rfl,?_⟩;simp only [zat,zbp]
  ·rw [zab (by simpa using hh),zaa hh];unfold km;rw [af ⟨gS,fc⟩,af ⟨gS,fc⟩,hx,af (by simp only [zal];omega),zac,af (by omega)];refine .inr ⟨_,rfl,⟨hy,⟨by simp only;omega,by simp only [zai,zal];omega⟩,r5⟩,rfl,?_⟩;simp only [Ro,zat,zbp]
def Xy (a:List Int) (x:ag):ag:=⟨x.source,x.aI,nth a x.index.toNat,x.err⟩
abbrev Z7:=aF×(List aa)×(List ag)×Int
theorem WN (b:Batch) (y3:List Int×List ag) (y4:List Range×List aa×List Head) (y5:Z6) (R:Z7) (hidx:∀ x,x∈y5.2.2->0<=x.index/\x.index<(y3.1.length:Int)) (hl:y3.2.length+y5.2.2.length<=100000)
  (hj:fi b y4 y5 (y3.2++y5.2.2.map (Xy y3.1))=some R):loop (λs:List ag×Int=>iV b y3 y4 y5 s.1 s.2) (y3.2,0)=some R:=by
 refine bp y5.2.2 (λst:List ag×Int=>st.2) (λst t=>some R) (λst t=>st.1++t.map (Xy y3.1)=y3.2++y5.2.2.map (Xy y3.1)/\∀ x,x∈t->0<=x.index/\x.index<(y3.1.length:Int)) (by omega) ?_ ?_ (s:=(y3.2,(0:Int))) rfl ⟨rfl,hidx⟩
 ·rintro ⟨y,i⟩ ⟨hh,_⟩ hi;simp only [zbf,zbq] at hh hi ⊢;unfold iV;rw [zaa (by simp only [zak];omega),hh,hj];exact ⟨_,rfl,rfl⟩
 ·rintro ⟨y,i⟩ x t ⟨hh,hk⟩ gS fc hx hlen;simp only at hh hk gS fc hx hlen ⊢;have Sg:=hk x (zaj ..);have hle:=zbn List.length hh;simp only [zai,zcu,zag] at hle;unfold iV;rw [zab (by simpa using fc),af ⟨gS,fc⟩,hx,af Sg,af (by simp only [zal];omega),af (by omega)];refine .inr ⟨_,rfl,⟨?_,λz hz=>hk z (zah _ hz)⟩,rfl,trivial⟩;rw [←hh];simp only [zao,Xy,zat,zbp]
theorem WO (v:aF) (b:Batch) (y3:List Int×List ag) (R:Z7) (Zy:∀ i,i∈y3.1->0<=i/\i<(b.records.length:Int)) (hl:y3.1.length<=100000)
  (hj:fj v b y3 (y3.1.map λi=>nth b.records i.toNat)=some R):loop (λs:List aa×Int=>fk v b y3 s.1 s.2) (([]:List aa),0)=some R:=by
 refine bp y3.1 (λst:List aa×Int=>st.2) (λst t=>some R) (λst t=>st.1++t.map (λi=>nth b.records i.toNat)=y3.1.map (λi=>nth b.records i.toNat)/\∀ x,x∈t->0<=x/\x<(b.records.length:Int)) (by omega) ?_ ?_ (s:=(([]:List aa),(0:Int))) rfl ⟨rfl,Zy⟩
 ·rintro ⟨y,i⟩ ⟨hh,_⟩ hi;simp only [zbf,zbq] at hh hi ⊢;unfold fk;rw [zaa (by simp only [zak];omega),hh,hj];exact ⟨_,rfl,rfl⟩
 ·rintro ⟨y,i⟩ x t ⟨hh,hk⟩ gS fc hx hlen;simp only at hh hk gS fc hx hlen ⊢;have Sg:=hk x (zaj ..);have hle:=zbn List.length hh;simp only [zai,zcu,zag] at hle;unfold fk;rw [zab (by simpa using fc),af ⟨gS,fc⟩,hx,af Sg,af (by simp only [zal];omega),af (by omega)];refine .inr ⟨_,rfl,⟨?_,λz hz=>hk z (zah _ hz)⟩,rfl,trivial⟩;rw [←hh];simp only [zao,zat,zbp]
def Z8:aF:=⟨([]:List Range),([]:List aa),([]:List Head)⟩
def Rt (v:aF) (b:Batch) (w:bX):Z7:=((⟨(dP w v.seen 0 b.records).1,(jm v.open_ (dP w v.seen 0 b.records).2.1).2,v.aO++[(⟨b.source,b.number,b.format,(b.records.length:Int)⟩:Head)]⟩:aF),(jm v.open_ (dP w v.seen 0 b.records).2.1).1,(dP w v.seen 0 b.records).2.2,0)
def sQ (v:aF) (b:Batch) (w:bX):Z7:=if Gx b=0 then (if b.number=oF b.source 1 v.aO then Rt v b w else (Z8,[],[],20)) else (Z8,[],[],Gx b)
structure R8 (v:aF) (b:Batch):Prop where
 I5:CA v
 seen:v.seen.length<=600
 aO:v.aO.length<=600
 opens:v.open_.length<=600
 kW:b.records.length<=100
 sm:∀ r,r∈b.records->Sm r
theorem R8.sml {v:aF} {b:Batch} (h:R8 v b):WI b.records:=λr hr=>by
 have:=h.sm r hr;unfold Sm at this;omega
theorem R8.okN {v:aF} {b:Batch} (h:R8 v b):∀ x,x∈v.aO->S4 x:=λx hx=>IZ (Fk h.I5.aO x hx)
theorem MG {w:bX} {l:List Range} {t:List aa} {i:Int} {r:aa} (h:r∈(dP w l i t).2.1):r∈t:=by
 rw [(Hl w t l i).2.1] at h;obtain ⟨p,h1,h2⟩:=MF h;have:=(Fs w t i p h1).2.2.2
 rwa [h2] at this
theorem I6 (w:bX) (l:List Range) (t:List aa) (i:Int):(dP w l i t).2.1.length+(dP w l i t).2.2.length<=t.length/\(dP w l i t).1.length<=l.length+t.length:=by
 obtain ⟨a,b,c⟩:=Hl w t l i;have h1:=I4 (pW w i t) l;have h2:=ME w t i;have h3:=c.length_eq;rw [zai] at h3;rw [a,b,h3];omega
theorem p_j1 (v:aF) (b:Batch) (h:R8 v b) (ps:List (Int×aa)) (no:List ag) (T:Z6) (hv:∀ r,r∈ps.map (·.2)->eb r=0) (hl:ps.length+no.length<=100) (R4:T.1=(gP v.seen ps).1) (R5:T.2.1=(gP v.seen ps).2.1) (Z0:T.2.2.Perm (no++(gP v.seen ps).2.2)) (hsrt:T.2.2.Pairwise (λa b=>a.index<b.index)) (hm:∀ r,r∈T.2.1->eb r=0) (hlen:T.2.1.length+T.2.2.length<=100) :
  fj v b (ps.map (·.1),no) (ps.map (·.2))=some ((⟨T.1,(jm v.open_ T.2.1).2,v.aO++[(⟨b.source,b.number,b.format,(b.records.length:Int)⟩:Head)]⟩:aF),(jm v.open_ T.2.1).1,T.2.2,0):=by
 have hs:=h.seen;have hh:=h.aO;have ho:=h.opens;have Da:=Rp (ps.map (·.1)) ps 0 (by omega) (λj hj=>by rw [show (0:Int).toNat+j=j from by omega])
 have TG:=MC (λi=>nth (ps.map (·.1)) i.toNat) (Ls 0 (ps.map (·.2))) v.seen
 rw [Da] at TG;have hgl:=I4 (Ls 0 (ps.map (·.2))) v.seen
 have hel:(Ls 0 (ps.map (·.2))).length=ps.length:=by
  have:=zbn List.length Da
  rwa [zcu] at this
 have hix:∀ x,x∈(gP v.seen (Ls 0 (ps.map (·.2)))).2.2->0<=x.index/\x.index<(ps.length:Int):=MD (λp hp=>by
  have:=Rq _ _ p hp;rw [zcu] at this;omega)
 have hf:=Rs v.seen (ps.map (·.2)) h.I5.can hv (by rw [zcu];omega)
 unfold fj oH iy eU ml;rw [af (by omega),af (by omega),af (by omega)];simp only [zac];rw [hf,zac];generalize gP v.seen (Ls 0 (ps.map (·.2)))=E at *
 rw [TG] at R4 R5 Z0;generalize gP v.seen ps=G at *;generalize Zy:ps.map (·.1)=Xz at *
 have hal:Xz.length=ps.length:=by rw [←Zy,zcu]
 have A8:fi b (v.seen,v.open_,v.aO) E (no++E.2.2.map (Xy Xz))=some ((⟨T.1,(jm v.open_ T.2.1).2,v.aO++[(⟨b.source,b.number,b.format,(b.records.length:Int)⟩:Head)]⟩:aF),(jm v.open_ T.2.1).1,T.2.2,0):=by
  unfold fi;have e3:T.2.2.Perm (no++E.2.2.map (Xy Xz)):=Z0;rw [WL hsrt e3 (by rw [←e3.length_eq];omega),zac];simp only at R4 R5 ⊢;rw [←R4,←R5,WA v.open_ _ h.I5.opn.wt hm (by omega),zac,af (by simp only [zal];omega)]
 exact WN b (Xz,no) (v.seen,v.open_,v.aO) E _ (λx hx=>by have:=hix x hx;simp only;omega) (by simp only;omega) A8
theorem Ru (v:aF) (b:Batch) (w:bX) (h:R8 v b):lF v b w=some (sQ v b w):=by
 have hs:=h.seen;have hh:=h.aO;have ho:=h.opens;have hr:=h.kW;unfold lF sQ;rw [WK b h.sml,zac];by_cases hc:Gx b=0
 ·obtain ⟨k1,k2,k3,k4,k5⟩:=I1 hc;rw [zaa (by simp [hc]),zab hc,Ri v _ (by omega) h.okN,zac,zab k1];by_cases hn:b.number=oF b.source 1 v.aO
  ·rw [zaa (by simp [hn]),zab hn,Rr b.records w (by omega),zac];have UA:=ME w b.records 0;obtain ⟨d1,d2,d3⟩:=Hl w b.records v.seen 0;have Ax:=I6 w v.seen b.records 0;have hL:((pW w 0 b.records).map (·.1)).map (λi=>nth b.records i.toNat)=(pW w 0 b.records).map (·.2):=by
    rw [List.map_map];refine zfw (λp hp=>?_);have:=(Fs w b.records 0 p hp).2.2.1;simpa using this
   have hvL:∀ r,r∈(pW w 0 b.records).map (·.2)->eb r=0:=λr hr=>by
    obtain ⟨p,h1,h2⟩:=zdj.1 hr;rw [←h2];exact k5 _ (Fs w b.records 0 p h1).2.2.2
   have Zy:∀ i,i∈(pW w 0 b.records).map (·.1)->0<=i/\i<(b.records.length:Int):=λi hi=>by
    obtain ⟨p,h1,h2⟩:=zdj.1 hi;have:=Fs w b.records 0 p h1;rw [←h2];omega
   have hj:=p_j1 v b h (pW w 0 b.records) (nW w 0 b.records) (dP w v.seen 0 b.records) hvL (by omega) d1 d2 d3 (I2 w b.records v.seen 0).2 (λr hr=>k5 r (MG hr)) (by omega);unfold Rt;generalize dP w v.seen 0 b.records=T at *;generalize nW w 0 b.records=no at *;have hll:((pW w 0 b.records).map (·.1)).length<=100000:=by rw [zcu];omega
   generalize (pW w 0 b.records).map (·.1)=Xz at *
   generalize (pW w 0 b.records).map (·.2)=ls at *
   subst hL;exact WO v b (Xz,no) _ Zy hll hj
  ·rw [zab (by simpa using hn),zaa hn];rfl
 ·rw [zab (by simpa using hc),zaa hc];rfl
theorem O9 (v:aF) (b:Batch) (w:bX) (h:R8 v b):pU v b w=some (sQ v b w):=by
 have hs:=h.seen;have hh:=h.aO;have ho:=h.opens;have hr:=h.kW;unfold pU sQ;rw [S9 b h.sml,zac];by_cases hc:Gx b=0
 ·obtain ⟨k1,k2,k3,k4,k5⟩:=I1 hc;rw [zaa (by simp [hc]),zab hc,S5 v _ (by omega) h.okN,zac,zab k1];by_cases hn:b.number=oF b.source 1 v.aO
  ·rw [zaa (by simp [hn]),zab hn,af (by omega)];refine bp b.records (λst:List Range×List aa×List ag×Int=>st.2.2.2) (λst t=>some (Rt v b w)) (λst t=>((dP w st.1 st.2.2.2 t).1=(dP w v.seen 0 b.records).1/\st.2.1++(dP w st.1 st.2.2.2 t).2.1=(dP w v.seen 0 b.records).2.1/\st.2.2.1++(dP w st.1 st.2.2.2 t).2.2=(dP w v.seen 0 b.records).2.2)/\Can st.1/\(st.1.length+t.length<=50000/\st.2.1.length+st.2.2.1.length+t.length<=50000)/\∀ r,r∈t->eb r=0) (by omega) ?_ ?_ (s:=(v.seen,([]:List aa),([]:List ag),(0:Int))) rfl ⟨⟨rfl,by simp,by simp⟩,h.I5.can,⟨by simp only;omega,by simp only [zay];omega⟩,k5⟩
   ·rintro ⟨y,f,e,i⟩ ⟨⟨a1,a2,a3⟩,_,_⟩ hi;simp only [dP,zbq] at a1 a2 a3 hi ⊢;unfold oL lK;have Ax:=I6 w v.seen b.records 0;rw [zaa (by simp only [zak];omega),a1,a2,a3,S3 v.open_ _ h.I5.opn.wt.sm (λr hr=>h.sm r (MG hr)) (by omega),zac,zbx,af (by simp only [zay];omega),af (by simp only [zal];omega)];exact ⟨_,rfl,rfl⟩
   ·rintro ⟨y,f,e,i⟩ r t ⟨⟨a1,a2,a3⟩,hy,⟨D2,FF⟩,ht⟩ gS fc hx hlen;simp only at a1 a2 a3 hy D2 FF ht gS fc hx hlen ⊢;simp only [zag] at D2 FF;have hid:=Rn (ht r (zaj ..));have r5:∀ x,x∈t->eb x=0:=λx hx=>ht x (zah _ hx)
    unfold oL;rw [zab (by simpa using fc),af ⟨gS,fc⟩,hx,WM,zac];rw [dP] at a1 a2 a3;by_cases hw:Lr w r
    ·rw [zab hw] at a1 a2 a3 ⊢;rw [zab (by rfl),WG y _ _ hy (by omega),zac];by_cases hq:hasB y r.source r.aI=false
     ·rw [zab hq] at a1 a2 a3;rw [zab (show FL r.source r.aI=true/\hasB y r.source r.aI=false from ⟨hid,hq⟩)];simp only [zbu];rw [af (by simp only [zal];omega),af (by omega)];have:=Bz r.source r.aI y;refine .inr ⟨_,rfl,⟨⟨a1,?_,a3⟩,(Fq hid hy hq).1,⟨by simp only;omega,by simp only [zai,zal];omega⟩,r5⟩,rfl,trivial⟩;rw [←a2];simp only [zat,zbp]
     ·rw [zaa hq] at a1 a2 a3;rw [zaa (show ¬(FL r.source r.aI=true/\hasB y r.source r.aI=false) from λk=>hq k.2)];simp only [zaz,zbt];unfold hZ;rw [hx,af (by simp only [zal];omega),af (by omega)];refine .inr ⟨_,rfl,⟨⟨a1,a2,?_⟩,hy,⟨by simp only;omega,by simp only [zai,zal];omega⟩,r5⟩,rfl,trivial⟩;rw [←a3];simp only [Ro,zat,zbp]
    ·rw [zaa hw] at a1 a2 a3 ⊢;rw [zaa (by decide)];unfold hZ;rw [hx,af (by simp only [zal];omega),af (by omega)];refine .inr ⟨_,rfl,⟨⟨a1,a2,?_⟩,hy,⟨by simp only;omega,by simp only [zai,zal];omega⟩,r5⟩,rfl,trivial⟩;rw [←a3];simp only [Ro,zat,zbp]
  ·rw [zab (by simpa using hn),zaa hn];rfl
 ·rw [zab (by simpa using hc),zaa hc];rfl
theorem Ft (v:aF) (b:Batch) (w:bX) (h:R8 v b):(sQ v b w).1.seen.length<=10000/\(sQ v b w).1.open_.length<=10000/\(sQ v b w).1.aO.length<=10000/\(sQ v b w).2.1.length<=10000/\(sQ v b w).2.2.1.length<=10000:=by
 have hs:=h.seen;have hh:=h.aO;have ho:=h.opens;have hr:=h.kW;have Ax:=I6 w v.seen b.records 0;have hj:=Ar v.open_ (dP w v.seen 0 b.records).2.1;unfold sQ;split
 ·split
  ·simp only [Rt,zai,zal];omega
  ·simp [Z8]
 ·simp [Z8]
def NS (a b:aa):Prop:=¬(a.source=b.source/\a.aI=b.aI)
structure Zz (V:aF) (i:Int):Prop where
 I5:CA V
 seen:(V.seen.length:Int)<=40*i
 aO:(V.aO.length:Int)<=i
 opens:(V.open_.length:Int)<=40*i
theorem Zz.next {V:aF} {i:Int} (h:Zz V i) (hi:i<=12) (s:Int):iB V s=some (if 1<=s/\s<=99 then oF s 1 V.aO else 0) :=
 Ri V s (by have:=h.aO;omega) (λx hx=>IZ (Fk h.I5.aO x hx))
def vN {α:Type} (lt:α->α->Bool) (x:α):List α->List α
 | []=>[x]
 | y::t=>if lt y x=true then y::vN lt x t else x::y::t
theorem BA {α:Type} (lt:α->α->Bool) (x:α):∀ (l:List α),(vN lt x l).length=l.length+1
 | []=>rfl
 | y::t=>by
  unfold vN;split
  ·rw [zag,BA lt x t,zag]
  ·rfl
theorem DS {α:Type} (lt:α->α->Bool) (x:α):∀ (l:List α) (z:α),z∈vN lt x l↔z=x∨z∈l
 | [],z=>by simp [vN]
 | y::t,z=>by
  unfold vN;split
  ·rw [zaq,DS lt x t z,zaq];constructor
   ·rintro (h|h|h)
    ·exact .inr (.inl h)
    ·exact .inl h
    ·exact .inr (.inr h)
   ·rintro (h|h|h)
    ·exact .inr (.inl h)
    ·exact .inl h
    ·exact .inr (.inr h)
  ·rw [zaq]
theorem Fu {α:Type} [Inhabited α] {step:Int->Option (Int ⊕ List α)} (l:List α) (x:α) (lt:α->α->Bool) (hl:l.length<=100000)
  (h:∀ i:Int,0<=i->i<=(l.length:Int)->step i=if i<(l.length:Int)/\lt (nth l i.toNat) x=true then some (.inl (i+1)) else some (.inr ((l.take i.toNat++[x])++l.drop i.toNat))):loop step 0=some (vN lt x l):=by
 have:=bp (step:=step) l (λi:Int=>i) (λi t=>some (l.take i.toNat++vN lt x t)) (λi t=>l.drop i.toNat=t/\0<=i) (by omega) ?_ ?_ (s:=0) rfl ⟨by simp,by omega⟩
 ·rw [this];simp
 ·rintro i ⟨h1,h2⟩ h3;refine ⟨(l.take i.toNat++[x])++l.drop i.toNat,?_,?_⟩
  ·rw [h i h2 (by omega),zaa (by omega)]
  ·rw [h1];simp [vN]
 ·rintro i a t ⟨h1,h2⟩ h3 h4 h5 h6;by_cases cE:lt a x=true
  ·refine .inr ⟨i+1,?_,⟨?_,by omega⟩,rfl,?_⟩
   ·rw [h i h2 (by omega),zab ⟨h4,by rw [h5];exact cE⟩]
   ·rw [show (i+1).toNat=i.toNat+1 from by omega,←List.drop_drop,h1];rfl
   ·rw [show (i+1).toNat=i.toNat+1 from by omega,pj (by omega),h5];simp [vN,cE]
  ·refine .inl ⟨(l.take i.toNat++[x])++l.drop i.toNat,?_,?_⟩
   ·rw [h i h2 (by omega),zaa (by rw [h5];exact λk=>cE k.2)]
   ·rw [h1];simp [vN,cE]
def Gy (a b:Int):Bool:=decide (a<b)
theorem K1 (l:List Int) (x:Int) (hl:l.length<=100000):fz l x=some (vN Gy x l):=by
 unfold fz;refine Fu l x Gy hl λi h0 h1=>?_
 unfold ku;rw [af (λk=>⟨h0,by simpa using k⟩)];have hj:er l x i=some ((l.take i.toNat++[x])++l.drop i.toNat):=by
  unfold er;have e1:(l.take i.toNat).length<=l.length:=zft ..;have e2:(l.drop i.toNat).length<=l.length:=by rw [zbi];omega
  rw [af ⟨h0,h1⟩,af (by omega),af (by rw [zal];omega),af ⟨h0,h1⟩,af (by rw [zai,zal];omega)]
 rw [hj];by_cases hc:i<(l.length:Int)/\Gy (nth l i.toNat) x=true
 ·rw [zab hc,zab (by simp only [zas,zak];exact ⟨hc.1,by simpa [Gy] using hc.2⟩),af ⟨by omega,by omega⟩]
 ·rw [zaa hc,zaa (λk=>hc (by simp only [zas,zak] at k;exact ⟨k.1,by simpa [Gy] using k.2⟩))];rfl
theorem K2 (l:List (List UInt8)) (x:List UInt8) (hl:l.length<=100000):et l x=some (vN nO x l):=by
 unfold et;refine Fu l x nO hl λi h0 h1=>?_
 unfold iW;rw [af (λk=>⟨h0,by simpa using k⟩)];have hj:dG l x i=some ((l.take i.toNat++[x])++l.drop i.toNat):=by
  unfold dG;have e1:(l.take i.toNat).length<=l.length:=zft ..;have e2:(l.drop i.toNat).length<=l.length:=by rw [zbi];omega
  rw [af ⟨h0,h1⟩,af (by omega),af (by rw [zal];omega),af ⟨h0,h1⟩,af (by rw [zai,zal];omega)]
 rw [hj];by_cases hc:i<(l.length:Int)/\nO (nth l i.toNat) x=true
 ·rw [zab hc,zab (by simp only [zas,zak];exact hc),af ⟨by omega,by omega⟩]
 ·rw [zaa hc,zaa (λk=>hc (by simpa only [zas,zak] using k))];rfl
theorem Rv (l:List (List UInt8)) (x:List UInt8) (hl:l.length<=100000):qI l x=some (vN nO x l):=by
 unfold qI;refine Fu l x nO hl λi h0 h1=>?_
 unfold uN;rw [af (λk=>⟨h0,by simpa using k⟩)];have hj:lO l x i=some ((l.take i.toNat++[x])++l.drop i.toNat):=by
  unfold lO;have e1:(l.take i.toNat).length<=l.length:=zft ..;have e2:(l.drop i.toNat).length<=l.length:=by rw [zbi];omega
  simp only [zbx,zay,zbr];rw [af ⟨h0,h1⟩,af (by omega),af (by rw [zal];omega),af ⟨h0,h1⟩,af (by rw [zai,zal];omega)]
 rw [hj];by_cases hc:i<(l.length:Int)/\nO (nth l i.toNat) x=true
 ·rw [zab hc,zab (by simp only [zas,zak];exact hc),af ⟨by omega,by omega⟩]
 ·rw [zaa hc,zaa (λk=>hc (by simpa only [zas,zak] using k))];rfl
def Gz (x:List UInt8) (l:List (List UInt8)):List (List UInt8):=l.filter (· != x)
theorem K3 {step:List (List UInt8)×Int->Option ((List (List UInt8)×Int) ⊕ List (List UInt8))} (l:List (List UInt8)) (x:List UInt8) (hl:l.length<=100000)
  (h:∀ (o:List (List UInt8)) (i:Int),0<=i->i<=(l.length:Int)->(o.length:Int)<=i->step (o,i)=if i<(l.length:Int) then some (.inl (if (nth l i.toNat != x)=true then o++[nth l i.toNat] else o,i+1)) else some (.inr o)):loop step ([],0)=some (Gz x l):=by
 have:=bp (step:=step) l (λs=>s.2) (λs t=>some (s.1++Gz x t)) (λs t=>0<=s.2/\s.2<=(l.length:Int)/\(s.1.length:Int)<=s.2) (by omega) ?_ ?_ (s:=([],0)) rfl ⟨by simp,by simp,by simp⟩
 ·rw [this];simp
 ·rintro ⟨o,i⟩ ⟨h1,h2,h3⟩ h4;refine ⟨o,?_,?_⟩
  ·rw [h o i h1 h2 h3,zaa (by simp only at h4;omega)]
  ·simp [Gz]
 ·rintro ⟨o,i⟩ a t ⟨h1,h2,h3⟩ h4 h5 h6 h7;simp only at h1 h2 h3 h4 h5 h6 h7;refine .inr ⟨(if (nth l i.toNat != x)=true then o++[nth l i.toNat] else o,i+1),?_,⟨by simp only;omega,by simp only;omega,?_⟩,rfl,?_⟩
  ·rw [h o i h1 h2 h3,zab h5]
  ·simp only;split
   ·rw [zai,zal];omega
   ·omega
  ·simp only;rw [h6];unfold Gz;rw [zbo];split <;> simp
theorem K4 (l:List (List UInt8)) (x:List UInt8) (hl:l.length<=100000):gV l x=some (Gz x l):=by
 unfold gV;refine K3 l x hl λo i h0 h1 h2=>?_
 unfold mq;by_cases hi:i<(l.length:Int)
 ·rw [zab (by simpa using hi),zab hi,af ⟨h0,hi⟩];split
  ·rw [af (by simp only [zal];omega),af ⟨by omega,by omega⟩]
  ·rw [af ⟨by omega,by omega⟩]
 ·rw [zaa (by simpa using hi),zaa hi]
theorem Hm (l:List (List UInt8)) (x:List UInt8) (hl:l.length<=100000):lP l x=some (Gz x l):=by
 unfold lP;refine K3 l x hl λo i h0 h1 h2=>?_
 unfold qJ;by_cases hi:i<(l.length:Int)
 ·rw [zab (by simpa using hi),zab hi,af ⟨h0,hi⟩];split
  ·rw [af ⟨h0,hi⟩,af (by simp only [zal];omega),af ⟨by omega,by omega⟩]
  ·rw [af ⟨by omega,by omega⟩]
 ·rw [zaa (by simpa using hi),zaa hi]
theorem NQ (x:List UInt8) (l:List (List UInt8)):(Gz x l).length<=l.length:=List.length_filter_le ..
abbrev W7:=(List Int)×(List Int)×(List (Int×al))×(List (Int×Sub))×(List (Int×Bool))×(List ((List UInt8)×Int))×(List (Int×Int))
abbrev uz:Sub:=⟨0,0,0,([]:List UInt8),([]:List (List UInt8)),([]:List (List UInt8)),false,false⟩
section maps
variable {κ α:Type} [BEq κ] [LawfulBEq κ]
theorem mZ (p:κ×α) (l:List (κ×α)) (k:κ):aB (p::l) k=if k==p.1 then some p.2 else aB l k:=by
 unfold aB;rw [List.find?_cons];split <;> simp_all
theorem Fv (p:κ×α) (l:List (κ×α)) (k:κ):dU (p::l) k=if k==p.1 then some 0 else (dU l k).map (·+1):=by
 unfold dU;rw [List.findIdx?_cons]
theorem CB (p:κ×α) (l:List (κ×α)) (k:κ) (v:α):da (p::l) k v=if k==p.1 then (k,v)::l else p::da l k v:=by
 unfold da;rw [Fv];by_cases h:(k==p.1)=true
 ·rw [zab h,zab h];rfl
 ·rw [zaa h,zaa h];cases dU l k <;> rfl
theorem ye (p:κ×α) (l:List (κ×α)) (k:κ):ff (p::l) k=if k==p.1 then l else p::ff l k:=by
 unfold ff;rw [Fv];by_cases h:(k==p.1)=true
 ·rw [zab h,zab h];rfl
 ·rw [zaa h,zaa h];cases dU l k <;> rfl
theorem fe (k:κ) (v:α) (k':κ):∀ (l:List (κ×α)),aB (da l k v) k'=if k'==k then some v else aB l k'
 | []=>by
  show aB [(k,v)] k'=_;rw [mZ]
 | p::l=>by
  have ih:=fe k v k' l;rw [CB];by_cases h:(k==p.1)=true
  ·have e:=eq_of_beq h;rw [zab h,mZ,mZ,←e];by_cases h2:(k'==k)=true
   ·rw [zab h2,zab h2]
   ·rw [zaa h2,zaa h2,zaa h2]
  ·rw [zaa h,mZ,mZ,ih];by_cases h2:(k'==k)=true
   ·have e:=eq_of_beq h2;rw [zab h2,zaa (by rw [e];exact h),zab h2]
   ·rw [zaa h2,zaa h2]
theorem Hn (k:κ) (v:α) (z:κ):∀ (l:List (κ×α)),z∈(da l k v).map (·.1)↔z=k∨z∈l.map (·.1)
 | []=>by simp [da,dU]
 | p::l=>by
  rw [CB];split
  ·rename_i h;have e:=eq_of_beq h;simp [e]
  ·rw [zao,zaq,Hn k v z l,zao,zaq];constructor
   ·rintro (h|h|h)
    ·exact .inr (.inl h)
    ·exact .inl h
    ·exact .inr (.inr h)
   ·rintro (h|h|h)
    ·exact .inr (.inl h)
    ·exact .inl h
    ·exact .inr (.inr h)
theorem wM (k:κ) (v:α):∀ {l:List (κ×α)},(l.map (·.1)).Nodup->((da l k v).map (·.1)).Nodup
 | [],_=>by simp [da,dU]
 | p::l,h=>by
  rw [zao,zby] at h;rw [CB];split
  ·rename_i e;rw [zao,zby,show k=p.1 from eq_of_beq e];exact h
  ·rename_i e;rw [zao,zby];refine ⟨λhm=>?_,wM k v h.2⟩;rcases (Hn k v p.1 l).1 hm with h1|h1
   ·exact e (by rw [h1];exact zfl k)
   ·exact h.1 h1
theorem Fw (k:κ) (z:κ):∀ (l:List (κ×α)),z∈(ff l k).map (·.1)->z∈l.map (·.1)
 | [],h=>by simp [ff,dU] at h
 | p::l,h=>by
  rw [ye] at h;split at h
  ·exact zah _ h
  ·rw [zao,zaq] at h ⊢;exact h.imp id (Fw k z l)
theorem BC (k:κ):∀ {l:List (κ×α)},(l.map (·.1)).Nodup->((ff l k).map (·.1)).Nodup
 | [],_=>by simp [ff,dU]
 | p::l,h=>by
  rw [zao,zby] at h;rw [ye];split
  ·exact h.2
  ·rw [zao,zby];exact ⟨λhm=>h.1 (Fw k _ l hm),BC k h.2⟩
theorem sR (k k':κ):∀ {l:List (κ×α)},(l.map (·.1)).Nodup->aB (ff l k) k'=if k'==k then none else aB l k'
 | [],_=>by
  have:ff ([]:List (κ×α)) k=[]:=rfl;rw [this];unfold aB;simp
 | p::l,h=>by
  rw [zao,zby] at h;rw [ye];by_cases e:(k==p.1)=true
  ·have e':=eq_of_beq e;rw [zab e];by_cases h2:(k'==k)=true
   ·rw [zab h2,LR];rw [eq_of_beq h2,e'];exact h.1
   ·rw [zaa h2,mZ,←e',zaa h2]
  ·rw [zaa e,mZ,mZ,sR k k' h.2];by_cases h2:(k'==k)=true
   ·rw [zab h2,zaa (by rw [eq_of_beq h2];exact e),zab h2]
   ·rw [zaa h2,zaa h2]
end maps
def Z9 (e:Event) (w:W7):Option W7:=eK e w.1 w.2.1 w.2.2.1 w.2.2.2.1 w.2.2.2.2.1 w.2.2.2.2.2.1 w.2.2.2.2.2.2
def NR (s:Sub) (e:Event):Sub :=
 if e.kind=5 then { s with numbers:=vN nO e.number s.numbers }
 else if e.kind=6 then { s with numbers:=Gz e.number s.numbers }
 else if e.kind=7 then { s with vk:=e.name }
 else if e.kind=8 then { s with cj:=vN nO e.name s.cj }
 else if e.kind=9 then { s with cj:=Gz e.name s.cj }
 else if e.kind=10 then { s with bL:=true }
 else if e.kind=11 then { s with bL:=false }
 else if e.kind=12 then { s with family:=true }
 else if e.kind=13 then { s with family:=false }
 else s
def As (e:Event):Sub:=⟨e.sub,e.au,e.at_,e.name,[],[],false,false⟩
def Rw (e:Event) (w:W7):List Int:=if e.kind=3/\(aB w.2.2.2.2.1 e.sub).getD false=false then vN Gy e.sub w.2.1 else w.2.1
def ZA (e:Event) (w:W7):List (Int×Bool):=if e.kind=3 then da w.2.2.2.2.1 e.sub true else w.2.2.2.2.1
def Pb (e:Event) (w:W7):List (Int×Sub) :=
 if e.kind=3 then da w.2.2.2.1 e.sub (As e)
 else if e.kind=4 then ff w.2.2.2.1 e.sub
 else if e.kind=1∨e.kind=2∨e.kind=14∨e.kind=15 then w.2.2.2.1
 else match aB w.2.2.2.1 e.sub with
  | some s=>da w.2.2.2.1 e.sub (NR s e)
  | none=>w.2.2.2.1
structure WB (n:Nat) (w:W7):Prop where
 opened:w.1.length<=n
 added:w.2.1.length<=n
 nums:∀ k s,aB w.2.2.2.1 k=some s->s.numbers.length<=n/\s.cj.length<=n
 live:∀ k,-(n:Int)<=(aB w.2.2.2.2.2.2 k).getD 0/\(aB w.2.2.2.2.2.2 k).getD 0<=(n:Int)
 keys:(w.2.2.2.1.map (·.1)).Nodup
theorem WB.up {n:Nat} {w:W7} (h:WB n w):WB (n+1) w:=⟨by have:=h.opened;omega,by have:=h.added;omega,λk s hs=>by have:=h.nums k s hs;omega,λk=>by have:=h.live k;omega,h.keys⟩
theorem Pc (s:Sub) (e:Event) (a b:List Int) (c:List (Int×al)) (d:List (Int×Sub)) (f:List (Int×Bool)) (o:List ((List UInt8)×Int)) (l:List (Int×Int)) (h1:s.numbers.length<=100000) (h2:s.cj.length<=100000) :
  ∃ o',eV s e a b c d f o l=some (NR s e,o'):=by
 unfold eV NR;by_cases k5:e.kind=5
 ·rw [zab (by simpa using k5),K2 _ _ h1,zab k5];exact ⟨_,rfl⟩
 rw [zaa (by simpa using k5),zaa k5];by_cases k6:e.kind=6
 ·rw [zab (by simpa using k6),K4 _ _ h1,zab k6];exact ⟨_,rfl⟩
 rw [zaa (by simpa using k6),zaa k6];by_cases k7:e.kind=7
 ·rw [zab (by simpa using k7),zab k7];exact ⟨_,rfl⟩
 rw [zaa (by simpa using k7),zaa k7];by_cases k8:e.kind=8
 ·rw [zab (by simpa using k8),K2 _ _ h2,zab k8];exact ⟨_,rfl⟩
 rw [zaa (by simpa using k8),zaa k8];by_cases k9:e.kind=9
 ·rw [zab (by simpa using k9),K4 _ _ h2,zab k9];exact ⟨_,rfl⟩
 rw [zaa (by simpa using k9),zaa k9];by_cases LN:e.kind=10
 ·rw [zab (by simpa using LN),zab LN];exact ⟨_,rfl⟩
 rw [zaa (by simpa using LN),zaa LN];by_cases Rx:e.kind=11
 ·rw [zab (by simpa using Rx),zab Rx];exact ⟨_,rfl⟩
 rw [zaa (by simpa using Rx),zaa Rx];by_cases Ta:e.kind=12
 ·rw [zab (by simpa using Ta),zab Ta];exact ⟨_,rfl⟩
 rw [zaa (by simpa using Ta),zaa Ta];by_cases Tb:e.kind=13
 ·rw [zab (by simpa using Tb),zab Tb];exact ⟨_,rfl⟩
 rw [zaa (by simpa using Tb),zaa Tb];exact ⟨_,rfl⟩
theorem NT (s:Sub) (e:Event):(NR s e).numbers.length<=s.numbers.length+1/\(NR s e).cj.length<=s.cj.length+1:=by
 unfold NR;have a:=BA nO e.number s.numbers;have b:=BA nO e.name s.cj;have c:=NQ e.number s.numbers;have d:=NQ e.name s.cj
 repeat' split
 all_goals first|omega|(simp only;omega)
theorem I7 (n:Nat) (e:Event) (w:W7) (h:WB n w) (hn:n<=10000):∃ w',Z9 e w=some w'/\WB (n+1) w'/\w'.2.1=Rw e w/\w'.2.2.2.1=Pb e w/\w'.2.2.2.2.1=ZA e w:=by
 obtain ⟨op,ad,ac,su,ev,ow,li⟩:=w;have h1:=h.opened;have h2:=h.added;have h3:=h.nums;have h4:=h.live;have h5:=h.keys;simp only at h1 h2 h3 h4 h5;have up:=h.up;unfold Z9 Rw Pb ZA;simp only;have WQ:=up.opened;have RY:=up.added;have WR:=up.nums;have WS:=up.live;simp only at WQ RY WR WS;unfold eK;by_cases k1:e.kind=1
 ·have n3:¬e.kind=3:=by omega
  have n4:¬e.kind=4:=by omega
  rw [zab (by simpa using k1)];simp only [n3,n4,k1,false_and,zbt,true_or,zbu];split
  ·rw [K1 _ _ (by omega),zac];unfold di;exact ⟨_,rfl,⟨by simp only [BA];omega,RY,WR,WS,h5⟩,rfl,rfl,rfl⟩
  ·unfold di;exact ⟨_,rfl,⟨WQ,RY,WR,WS,h5⟩,rfl,rfl,rfl⟩
 rw [zaa (by simpa using k1)];by_cases k2:e.kind=2
 ·have n3:¬e.kind=3:=by omega
  have n4:¬e.kind=4:=by omega
  rw [zab (by simpa using k2)];simp only [n3,n4,k2,false_and,zbt,true_or,or_true,zbu];exact ⟨_,rfl,⟨WQ,RY,WR,WS,h5⟩,rfl,rfl,rfl⟩
 rw [zaa (by simpa using k2)];by_cases k3:e.kind=3
 ·rw [zab (by simpa using k3)];simp only [k3,true_and,zbu];have hl:cL ((aB li e.au).getD 0+1):=by have:=h4 e.au;exact ⟨by omega,by omega⟩
  have Uf:∀ k,-((n+1:Nat):Int)<=(aB (da li e.au ((aB li e.au).getD 0+1)) k).getD 0/\(aB (da li e.au ((aB li e.au).getD 0+1)) k).getD 0<=((n+1:Nat):Int):=λk=>by
   rw [fe];split
   ·have:=h4 e.au;simp only [zcv];omega
   ·exact WS k
  have K5:∀ k s,aB (da su e.sub (⟨e.sub,e.au,e.at_,e.name,([]:List (List UInt8)),([]:List (List UInt8)),false,false⟩:Sub)) k=some s->s.numbers.length<=n+1/\s.cj.length<=n+1:=λk s hs=>by
   rw [fe] at hs;split at hs
   ·cases hs;simp
   ·exact WR k s hs
  by_cases PE:(aB ev e.sub).getD false=false
  ·rw [zab (by rw [PE];rfl),K1 _ _ (by omega),zac,zab PE];unfold dj;rw [af hl];exact ⟨_,rfl,⟨WQ,by simp only [BA];omega,K5,Uf,wM _ _ h5⟩,rfl,rfl,rfl⟩
  ·rw [zaa (by simpa using PE),zaa PE];unfold dj;rw [af hl];exact ⟨_,rfl,⟨WQ,RY,K5,Uf,wM _ _ h5⟩,rfl,rfl,rfl⟩
 rw [zaa (by simpa using k3)];simp only [k3,false_and,zbt];by_cases k4:e.kind=4
 ·rw [zab (by simpa using k4)];simp only [k4,zbu];have UY:((aB su e.sub).getD uz).numbers.length<=n:=by
   cases hs:aB su e.sub with
   | none=>simp [uz]
   | some s=>exact (h3 _ _ hs).1
  have key:∀ o,∃ o',loop (λs:Int×List ((List UInt8)×Int)=>eM e op ad ac su ev li s.1 s.2) (0,o)=cC e op ad ac su ev li o':=λo=>by
   refine ⟨((aB su e.sub).getD uz).numbers.foldl ff o,?_⟩;have hF:∀ o,∃ r,cC e op ad ac su ev li o=some r:=λo=>by
    unfold cC;have hl:cL ((aB li ((aB su e.sub).getD uz).au).getD 0-1):=by have:=h4 ((aB su e.sub).getD uz).au;exact ⟨by omega,by omega⟩
    rw [af hl];exact ⟨_,rfl⟩
   refine bp ((aB su e.sub).getD uz).numbers (λs=>s.1) (λs t=>cC e op ad ac su ev li (t.foldl ff s.2)) (λs t=>0<=s.1) (by omega) ?_ ?_ (s:=(0,o)) rfl (by simp)
   ·rintro ⟨i,o⟩ hi h6;simp only at hi h6;obtain ⟨r,hr⟩:=hF o;refine ⟨r,?_,hr⟩;unfold eM;simp only;rw [zaa (by rw [zak];show ¬ i<(((aB su e.sub).getD uz).numbers.length:Int);omega),hr];rfl
   ·rintro ⟨i,o⟩ a t hi h6 h7 h8 h9;simp only at hi h6 h7 h8 h9;refine .inr ⟨(i+1,ff o a),?_,by simp only;omega,rfl,rfl⟩;unfold eM;simp only;rw [zab (by simpa using h7),af ⟨h6,h7⟩,af ⟨by omega,by omega⟩,h8]
  obtain ⟨o',ho⟩:=key ow;rw [ho];unfold cC;have hl:cL ((aB li ((aB su e.sub).getD uz).au).getD 0-1):=by have:=h4 ((aB su e.sub).getD uz).au;exact ⟨by omega,by omega⟩
  rw [af hl];refine ⟨_,rfl,⟨WQ,RY,λk s hs=>?_,λk=>?_,BC _ h5⟩,rfl,rfl,rfl⟩
  ·simp only at hs;rw [sR _ _ h5] at hs;split at hs
   ·cases hs
   ·exact WR k s hs
  ·simp only;rw [fe];split
   ·have:=h4 ((aB su e.sub).getD uz).au;simp only [zcv];unfold uz at this;omega
   ·exact WS k
 rw [zaa (by simpa using k4)];simp only [k4,zbt];have hj:∀ b:Bool,(b=true->e.kind=14∨e.kind=15)->(b=false->¬(e.kind=14∨e.kind=15))->∃ w',dm e op ad ac su ev ow li b=some w'/\WB (n+1) w'/\w'.2.1=ad/\w'.2.2.2.1=(if e.kind=1∨e.kind=2∨e.kind=14∨e.kind=15 then su else match aB su e.sub with|some s=>da su e.sub (NR s e)|none=>su)/\w'.2.2.2.2.1=ev:=λb D2 FF=>by
  unfold dm;cases b with
  | true=>rw [zab rfl,zab (.inr (.inr (D2 rfl)))];exact ⟨_,rfl,up,rfl,rfl,rfl⟩
  | false =>
   have hr:¬(e.kind=1∨e.kind=2∨e.kind=14∨e.kind=15):=by have:=FF rfl;omega
   simp only [hr,zbt,zaz];cases hs:aB su e.sub with
   | none=>simp only [Option.isSome_none,zaz,zbt];exact ⟨_,rfl,up,rfl,rfl,rfl⟩
   | some s =>
    simp only [Option.isSome_some,zbu,zcv];have hb:=h3 _ _ hs;obtain ⟨o',ho⟩:=Pc s e op ad ac su ev ow li (by omega) (by omega);rw [ho,zac];have hc:=NT s e;refine ⟨_,rfl,⟨WQ,RY,λk s' tX=>?_,WS,wM _ _ h5⟩,rfl,rfl,rfl⟩;simp only at tX;rw [fe] at tX;split at tX
    ·cases tX;omega
    ·exact WR k s' tX
 split
 ·rename_i NU;refine hj _ (λ_=>.inl (by simpa using NU)) (λk=>?_);rw [NU] at k;cases k
 ·rename_i NU;have k14':¬e.kind=14:=by simpa using NU
  refine hj _ (λk=>.inr (by simpa using k)) (λk=>?_);have:¬e.kind=15:=by simpa using k
  omega
def w0:W7:=([],[],[],[],[],[],[])
theorem wb0:WB 0 w0:=⟨by simp [w0],by simp [w0],λk s h=>by simp [w0,aB] at h,λk=>by simp [w0,aB],by simp [w0]⟩
def K6 (t:Int):List Event->W7->Option W7
 | [],w=>some w
 | e::l,w=>if e.at_<=t then (Z9 e w).bind (K6 t l) else K6 t l w
theorem WT (cR:List Event) (t:Int) (n:Nat) (w:W7) (h:WB n w) (hl:n+cR.length<=10000) :
  gW cR t w.1 w.2.1 w.2.2.1 w.2.2.2.1 w.2.2.2.2.1 w.2.2.2.2.2.1 w.2.2.2.2.2.2=K6 t cR w:=by
 unfold gW;refine bp cR (λs:Int×W7=>s.1) (λs r=>K6 t r s.2) (λs r=>0<=s.1/\∃ n,WB n s.2/\n+r.length<=10000) (by omega) ?_ ?_ (s:=(0,w)) rfl ⟨by simp,n,h,hl⟩
 ·rintro ⟨i,w⟩ ⟨h1,_⟩ h2;simp only at h1 h2;refine ⟨w,?_,rfl⟩;unfold jC;rw [zaa (by simp only [zak];omega)]
 ·rintro ⟨i,w⟩ e r ⟨h1,n,hb,h2⟩ h3 h4 h5 h6;simp only at h1 h2 h3 h4 h5 h6 hb;rw [zag] at h2;unfold jC;simp only;rw [zab (by simpa using h4),af ⟨h3,h4⟩,h5];by_cases ha:e.at_<=t
  ·obtain ⟨w',hw,ka,_⟩:=I7 n e w hb (by omega);have hr:iX e w.1 w.2.1 w.2.2.1 w.2.2.2.1 w.2.2.2.2.1 w.2.2.2.2.2.1 w.2.2.2.2.2.2=some w':=by
    unfold iX;have:eK e w.1 w.2.1 w.2.2.1 w.2.2.2.1 w.2.2.2.2.1 w.2.2.2.2.2.1 w.2.2.2.2.2.2=some w':=hw;rw [this];rfl
   rw [zab (by simpa using ha),hr,zac,af ⟨by omega,by omega⟩];refine .inr ⟨(i+1,w'),rfl,⟨by simp only;omega,n+1,ka,by omega⟩,rfl,?_⟩;simp only;rw [K6,zab ha,hw];rfl
  ·rw [zaa (by simpa using ha),af ⟨by omega,by omega⟩];refine .inr ⟨(i+1,w),rfl,⟨by simp only;omega,n,hb,by omega⟩,rfl,?_⟩;simp only;rw [K6,zaa ha]
theorem I8 (t:Int):∀ (cR:List Event) (n:Nat) (w:W7),WB n w->n+cR.length<=10000->∃ w',K6 t cR w=some w'/\WB (n+cR.length) w'
 | [],n,w,h,_=>⟨w,rfl,h⟩
 | e::l,n,w,h,hl=>by
  rw [zag] at hl;unfold K6;split
  ·obtain ⟨w',hw,ka,_⟩:=I7 n e w h (by omega);obtain ⟨w2,h1,h2⟩:=I8 t l (n+1) w' ka (by omega);refine ⟨w2,by rw [hw];exact h1,?_⟩;rw [zag,show n+(l.length+1)=n+1+l.length from by omega];exact h2
  ·obtain ⟨w2,h1,h2⟩:=I8 t l (n+1) w h.up (by omega);refine ⟨w2,h1,?_⟩;rw [zag,show n+(l.length+1)=n+1+l.length from by omega];exact h2
def jJ (w:W7):List Sub:=w.2.1.filterMap (aB w.2.2.2.1)
def WU (su:List (Int×Sub)):List Int->List (Int×List Int)->List (Int×List Int)
 | [],o=>o
 | k::t,o=>match aB su k with
  | none=>WU su t o
  | some s=>WU su t (da o s.au ((aB o s.au).getD []++[k]))
theorem NV (op:List Int) (ac:List (Int×al)) (L:List Sub) (o:List (Int×List Int)) (hl:op.length<=10000):∃ a,cM op ac L o=some ⟨a,L⟩:=by
 unfold cM
 let f:Int->al:=λk=>⟨((aB ac k).getD (⟨0,0,0,false,false,([]:List Int)⟩:al)).id,((aB ac k).getD (⟨0,0,0,false,false,([]:List Int)⟩:al)).since,((aB ac k).getD (⟨0,0,0,false,false,([]:List Int)⟩:al)).anchor,((aB ac k).getD (⟨0,0,0,false,false,([]:List Int)⟩:al)).fH,((aB ac k).getD (⟨0,0,0,false,false,([]:List Int)⟩:al)).closed,(aB o k).getD ([]:List Int)⟩
 refine ⟨op.map f,?_⟩;have:=bp (step:=λs:Int×List al=>dM op ac L o s.1 s.2) op (λs=>s.1) (λs r=>some (⟨s.2++r.map f,L⟩:b7)) (λs r=>0<=s.1/\(s.2.length:Int)<=s.1/\s.1<=(op.length:Int)) (by omega) ?_ ?_ (s:=(0,[])) rfl (by simp)
 ·rw [this];simp
 ·rintro ⟨i,l⟩ ⟨h1,h2,h3⟩ h4;simp only at h1 h2 h3 h4;refine ⟨⟨l,L⟩,?_,by simp⟩;unfold dM;rw [zaa (by simp only [zak];omega)]
 ·rintro ⟨i,l⟩ k r ⟨h1,h2,h3⟩ h4 h5 h6 h7;simp only at h1 h2 h3 h4 h5 h6 h7;refine .inr ⟨(i+1,l++[f k]),?_,⟨by simp only;omega,by simp only [zai,zal];omega,by simp only;omega⟩,rfl,by simp⟩;unfold dM;rw [zab (by simpa using h5),af ⟨h4,h5⟩,af (by simp only [zal];omega),af ⟨by omega,by omega⟩,h6]
theorem K7 (n:Nat) (w:W7) (h:WB n w) (hn:n<=10000):∃ a,eD w.1 w.2.1 w.2.2.1 w.2.2.2.1 w.2.2.2.2.1 w.2.2.2.2.2.1 w.2.2.2.2.2.2=some ⟨a,jJ w⟩:=by
 obtain ⟨op,ad,ac,su,ev,ow,li⟩:=w;have h1:=h.opened;have h2:=h.added;simp only at h1 h2;unfold eD jJ;simp only;obtain ⟨a,ha⟩:=NV op ac (ad.filterMap (aB su)) (WU su ad []) (by omega);refine ⟨a,?_⟩;have:=bp (step:=λs:Int×List Sub×List (Int×List Int)=>cN op ad ac su s.1 s.2.1 s.2.2) ad (λs=>s.1) (λs r=>cM op ac (s.2.1++r.filterMap (aB su)) (WU su r s.2.2))
  (λs r=>0<=s.1/\(s.2.1.length:Int)<=s.1/\s.1<=(ad.length:Int)/\∀ k,(((aB s.2.2 k).getD []).length:Int)<=s.1) (by omega) ?_ ?_ (s:=(0,[],[])) rfl ⟨by simp,by simp,by simp,λk=>by simp [aB]⟩
 ·rw [this];simpa using ha
 ·rintro ⟨i,l,o⟩ ⟨h3,h4,h5,h6⟩ h7;simp only at h3 h4 h5 h6 h7;obtain ⟨a,ha⟩:=NV op ac l o (by omega);refine ⟨⟨a,l⟩,?_,by simpa [WU] using ha⟩;unfold cN;rw [zaa (by simp only [zak];omega),ha];rfl
 ·rintro ⟨i,l,o⟩ k r ⟨h3,h4,h5,h6⟩ h7 h8 h9 KA;simp only at h3 h4 h5 h6 h7 h8 h9 KA;unfold cN;simp only;rw [zab (by simpa using h8),af ⟨h7,h8⟩,h9];cases hs:aB su k with
  | none =>
   refine .inr ⟨(i+1,l,o),?_,⟨by simp only;omega,by simp only;omega,by simp only;omega,λk=>by have:=h6 k;simp only;omega⟩,rfl,?_⟩
   ·rw [zab (by simp),af ⟨by omega,by omega⟩]
   ·simp only [zdy,hs,WU]
  | some s =>
   have h6':=h6 s.au;refine .inr ⟨(i+1,l++[s],da o s.au ((aB o s.au).getD []++[k])),?_,⟨by simp only;omega,by simp only [zai,zal];omega,by simp only;omega,λk'=>?_⟩,rfl,?_⟩
   ·rw [zaa (by simp)];simp only [zcv];rw [af (by simp only [zal];omega),af (by simp only [zal];omega),af ⟨by omega,by omega⟩]
   ·simp only;rw [fe];split
    ·simp only [zcv,zai,zal];omega
    ·have:=h6 k';omega
   ·simp only [zdy,hs,WU,zat,zbp]
theorem Tc (cR:List Event) (t:Int) (hl:cR.length<=5000):∃ w a,K6 t cR w0=some w/\WB cR.length w/\dZ cR t=some ⟨a,jJ w⟩:=by
 obtain ⟨w,h1,h2⟩:=I8 t cR 0 w0 wb0 (by omega);rw [zbr] at h2;obtain ⟨a,ha⟩:=K7 _ w h2 (by omega);refine ⟨w,a,h1,h2,?_⟩;unfold dZ nn oI;have:=WT cR t 0 w0 wb0 (by omega);simp only [zac];rw [show gW cR t ([]:List Int) ([]:List Int) ([]:List (Int×al)) ([]:List (Int×Sub)) ([]:List (Int×Bool)) ([]:List ((List UInt8)×Int)) ([]:List (Int×Int))=K6 t cR w0 from this,h1,zac,ha];rfl
def WV:List Sub->List ((List UInt8)×Int)->List ((List UInt8)×Int)
 | [],o=>o
 | s::l,o=>WV l (s.numbers.foldl (λo n=>da o n s.id) o)
theorem Ry (cR:List Event) (t:Int) (c:b7) (h:dZ cR t=some c) (hl:c.bl.length<=10000) (hn:∀ s,s∈c.bl->s.numbers.length<=10000):iY cR t=some (WV c.bl []):=by
 unfold iY;rw [h,zac];refine bp (step:=λs:Int×List ((List UInt8)×Int)=>gl c s.1 s.2) c.bl (λs=>s.1) (λs r=>some (WV r s.2)) (λs r=>0<=s.1/\∀ x,x∈r->x.numbers.length<=10000) (by omega) ?_ ?_ (s:=(0,[])) rfl ⟨by simp,hn⟩
 ·rintro ⟨i,o⟩ ⟨h1,_⟩ h2;simp only at h1 h2;refine ⟨o,?_,rfl⟩;unfold gl;rw [zaa (by simp only [zak];omega)]
 ·rintro ⟨i,o⟩ x r ⟨h1,h2⟩ h3 h4 h5 h6;simp only at h1 h2 h3 h4 h5 h6;refine .inr ⟨(i+1,x.numbers.foldl (λo n=>da o n x.id) o),?_,⟨by simp only;omega,λy hy=>h2 y (zah _ hy)⟩,rfl,rfl⟩
  unfold gl;rw [zab (by simpa using h4),af ⟨h3,h4⟩];have hx:=h2 x (zaj ..);refine bp (step:=λs:Int×List ((List UInt8)×Int)=>gj c i s.1 s.2) x.numbers (λs=>s.1) (λs r=>some (.inl (i+1,r.foldl (λo n=>da o n x.id) s.2))) (λs r=>0<=s.1) (by omega) ?_ ?_ (s:=(0,o)) rfl (by simp)
  ·rintro ⟨j,o⟩ h7 h8;simp only at h7 h8;refine ⟨_,?_,rfl⟩;unfold gj;rw [h5,zaa (by simp only [zak];omega),af ⟨by omega,by omega⟩];rfl
  ·rintro ⟨j,o⟩ n q h7 h8 h9 KA h11;simp only at h7 h8 h9 KA h11;refine .inr ⟨(j+1,da o n x.id),?_,by simp only;omega,rfl,rfl⟩;unfold gj;rw [h5,zab (by simpa using h9),af ⟨h8,h9⟩,af ⟨by omega,by omega⟩,KA]
def K8 (id:Int):List Sub->Sub×Bool
 | []=>(uz,false)
 | s::l=>if s.id=id then (s,true) else K8 id l
theorem ZB (cR:List Event) (id t:Int) (c:b7) (h:dZ cR t=some c) (hl:c.bl.length<=10000):mv cR id t=some (K8 id c.bl):=by
 unfold mv;rw [h,zac];refine bp (step:=λs:Int=>jD id c s) c.bl (λs=>s) (λs r=>some (K8 id r)) (λs r=>0<=s) (by omega) ?_ ?_ (s:=0) rfl (by simp)
 ·rintro i h1 h2;refine ⟨_,?_,rfl⟩;unfold jD;rw [zaa (by simp only [zak];omega)];rfl
 ·rintro i x r h1 h2 h3 h4 h5;unfold jD;rw [zab (by simpa using h3),af ⟨h2,h3⟩,h4];by_cases hx:x.id=id
  ·rw [zab (by simpa using hx)];exact .inl ⟨_,rfl,by rw [K8,zab hx]⟩
  ·rw [zaa (by simpa using hx),af ⟨by omega,by omega⟩];exact .inr ⟨_,rfl,by omega,rfl,by rw [K8,zaa hx]⟩
def BD (r:aa):List UInt8:=if r.bS=true then r.b else r.a
def I9 (L:List Sub) (n:List UInt8):Sub×Bool:=match aB (WV L []) n with
 | none=>(uz,false)
 | some id=>K8 id L
theorem Td (cR:List Event) (r:aa) (c:b7) (h:dZ cR r.start=some c) (hl:c.bl.length<=10000) (hn:∀ s,s∈c.bl->s.numbers.length<=10000) :
  il (⟨(⟨r⟩:dq),cR⟩:jO)=some (I9 c.bl (BD r)):=by
 unfold il;have WW:fN (⟨r⟩:dq)=some (BD r):=by
  unfold fN BD;split <;> rfl
 simp only;rw [WW,zac];unfold l7 I9;rw [Ry cR _ c h hl hn,zac,zac];cases ha:aB (WV c.bl []) (BD r) with
 | none=>simp
 | some id =>
  simp only [Option.isSome_some,zcv,zci,zaz,zbt];rw [ZB cR id _ c h hl,zac]
def Fx:aC:=⟨0,0,0,0,([]:List UInt8),([]:List UInt8),0,0,0,false,0,0⟩
def Ja (L:List Sub) (r:aa) (id:Int):aC×Int :=
 if eb r≠0 then (Fx,eb r)
 else if r.part≠0 then (Fx,8)
 else if (I9 L (BD r)).2=false then (Fx,11)
 else if (I9 L (BD r)).1.bL=true/\r.bS=false then (Fx,16)
 else (⟨id,r.kind,(I9 L (BD r)).1.au,(I9 L (BD r)).1.id,r.a,r.b,r.start,r.cU,r.c9,r.bS,r.source,r.aI⟩,0)
theorem Te (cR:List Event) (r:aa) (id:Int) (c:b7) (h:dZ cR r.start=some c) (hl:c.bl.length<=10000) (hn:∀ s,s∈c.bl->s.numbers.length<=10000) (hs:Sm r) :
  fQ cR r id=some (Ja c.bl r id):=by
 unfold fQ Ja;rw [IV r hs,zac,Td cR r c h hl hn];by_cases h1:eb r=0
 ·rw [zaa (show ¬((eb r != 0)=true) by simp [h1]),zaa (show ¬(eb r≠0) from λk=>k h1)];by_cases h2:r.part=0
  ·rw [zaa (show ¬((r.part != 0)=true) by simp [h2]),zaa (show ¬(r.part≠0) from λk=>k h2),zac];generalize I9 c.bl (BD r)=y;obtain ⟨s,ok⟩:=y;cases ok with
   | false=>simp [Fx]
   | true =>
    simp only [zci,zaz,zbt];cases hss:s.bL <;> cases hi:r.bS <;> simp [Fx,jj,hi]
  ·rw [zab (show (r.part != 0)=true by simpa using h2),zab (show r.part≠0 from h2)];rfl
 ·rw [zab (show (eb r != 0)=true by simpa using h1),zab (show eb r≠0 from h1)];rfl
abbrev Bk:=ah
def tS {α:Type} (p:α->Bool):List α->Int->Int
 | [],_=>-1
 | a::l,i=>if p a=true then i else tS p l (i+1)
theorem s5 {α:Type} [Inhabited α] (p:α->Bool):∀ (l:List α) (i:Int),0<=i->(tS p l i=-1/\∀ a,a∈l->p a=false)∨(i<=tS p l i/\tS p l i<i+l.length/\p (nth l (tS p l i-i).toNat)=true)
 | [],i,_=>.inl ⟨rfl,λa h=>by simp at h⟩
 | a::l,i,hi=>by
  unfold tS;by_cases h:p a=true
  ·rw [zab h];refine .inr ⟨by omega,by rw [zag];omega,?_⟩;rw [show (i-i).toNat=0 from by omega,eY];exact h
  ·rw [zaa h];rcases s5 p l (i+1) (by omega) with ⟨h1,h2⟩|⟨h1,h2,h3⟩
   ·exact .inl ⟨h1,λb hb=>by
     rcases zaq.1 hb with rfl|hb
     ·simpa using h
     ·exact h2 b hb⟩
   ·refine .inr ⟨by omega,by rw [zag];omega,?_⟩;rw [show (tS p l (i+1) - i).toNat=(tS p l (i+1) - (i+1)).toNat+1 from by omega,eG];exact h3
theorem CC (b:Bk) (n:Int) (hl:b.aJ.length<=100000):jX b n=some (tS (λa=>a.id==n) b.aJ 0):=by
 unfold jX;refine bp (step:=λs:Int=>kK b n s) b.aJ (λs=>s) (λs r=>some (tS (λa=>a.id==n) r s)) (λs r=>0<=s) (by omega) ?_ ?_ (s:=0) rfl (by simp)
 ·rintro i h1 h2;refine ⟨_,?_,rfl⟩;unfold kK;rw [zaa (by simp only [zak];omega)];rfl
 ·rintro i x r h1 h2 h3 h4 h5;unfold kK;rw [zab (by simpa using h3),af ⟨h2,h3⟩,h4];by_cases hx:(x.id==n)=true
  ·rw [zab hx];exact .inl ⟨_,rfl,by rw [tS,zab hx]⟩
  ·rw [zaa hx,af ⟨by omega,by omega⟩];exact .inr ⟨_,rfl,by omega,rfl,by rw [tS,zaa hx]⟩
def kS (b:Bk) (n:Int):Int:=tS (λa:Sub=>a.id==n) b.bl 0
theorem Fy (b:Bk) (n:Int) (hl:b.bl.length<=100000):nv b n=some (kS b n):=by
 unfold nv;refine bp (step:=λs:Int=>pP b n s) b.bl (λs=>s) (λs r=>some (tS (λa:Sub=>a.id==n) r s)) (λs r=>0<=s) (by omega) ?_ ?_ (s:=0) rfl (by simp)
 ·rintro i h1 h2;refine ⟨_,?_,rfl⟩;unfold pP;rw [zaa (by simp only [zak];omega)];rfl
 ·rintro i x r h1 h2 h3 h4 h5;unfold pP;rw [zab (by simpa using h3),af ⟨h2,h3⟩,h4];by_cases hx:(x.id==n)=true
  ·rw [zab hx];exact .inl ⟨_,rfl,by rw [tS,zab hx]⟩
  ·rw [zaa hx,af ⟨by omega,by omega⟩];exact .inr ⟨_,rfl,by omega,rfl,by rw [tS,zaa hx]⟩
theorem DT (b:Bk) (n:Int) (hl:b.ended.length<=100000):lg b n=some (decide (n∈b.ended)):=by
 unfold lg;refine bp (step:=λs:Int=>mJ b n s) b.ended (λs=>s) (λs r=>some (decide (n∈r))) (λs r=>0<=s) (by omega) ?_ ?_ (s:=0) rfl (by simp)
 ·rintro i h1 h2;refine ⟨_,?_,rfl⟩;unfold mJ;rw [zaa (by simp only [zak];omega)];simp
 ·rintro i x r h1 h2 h3 h4 h5;unfold mJ;rw [zab (by simpa using h3),af ⟨h2,h3⟩,h4];by_cases hx:x=n
  ·rw [zab (by simpa using hx)];exact .inl ⟨_,rfl,by simp [hx]⟩
  ·rw [zaa (by simpa using hx),af ⟨by omega,by omega⟩];exact .inr ⟨_,rfl,by omega,rfl,by simp [zcf hx]⟩
theorem Jb (l:List (List UInt8)) (n:List UInt8) (hl:l.length<=100000):nw l n=some (decide (n∈l)):=by
 unfold nw;refine bp (step:=λs:Int=>pQ l n s) l (λs=>s) (λs r=>some (decide (n∈r))) (λs r=>0<=s) (by omega) ?_ ?_ (s:=0) rfl (by simp)
 ·rintro i h1 h2;refine ⟨_,?_,rfl⟩;unfold pQ;rw [zaa (by simp only [zak];omega)];simp
 ·rintro i x r h1 h2 h3 h4 h5;unfold pQ;rw [zab (by simpa using h3),af ⟨h2,h3⟩,h4];by_cases hx:x=n
  ·rw [zab (by simpa using hx)];exact .inl ⟨_,rfl,by simp [hx]⟩
  ·rw [zaa (by simpa using hx),af ⟨by omega,by omega⟩];exact .inr ⟨_,rfl,by omega,rfl,by simp [zcf hx]⟩
structure BB (n:Nat) (b:Bk):Prop where
 MH:b.aJ.length<=n
 bl:b.bl.length<=n
 ended:b.ended.length<=n
 nums:∀ s,s∈b.bl->s.numbers.length<=n/\s.cj.length<=n
theorem BB.up {n:Nat} {b:Bk} (h:BB n b):BB (n+1) b:=⟨by have:=h.MH;omega,by have:=h.bl;omega,by have:=h.ended;omega,λs hs=>by have:=h.nums s hs;omega⟩
theorem Tf (b:Bk) (x:List UInt8) (n:Nat) (h:BB n b) (hn:n<=10000):rL b x=some (b.bl.any λs=>decide (x∈s.numbers)):=by
 unfold rL;have hl:=h.bl;refine bp (step:=λs:Int=>mK b x s) b.bl (λs=>s) (λs r=>some (r.any λs=>decide (x∈s.numbers))) (λs r=>0<=s/\∀ y,y∈r->y.numbers.length<=n) (by omega) ?_ ?_ (s:=0) rfl ⟨by simp,λy hy=>(h.nums y hy).1⟩
 ·rintro i ⟨h1,_⟩ h2;refine ⟨_,?_,rfl⟩;unfold mK;rw [zaa (by simp only [zak];omega)];simp
 ·rintro i y r ⟨h1,h2⟩ h3 h4 h5 h6;have hy:=h2 y (zaj ..);unfold mK;rw [zab (by simpa using h4),af ⟨h3,h4⟩,h5,Jb _ _ (by omega),zac];by_cases hx:x∈y.numbers
  ·rw [zab (by simpa using hx)];exact .inl ⟨_,rfl,by simp [hx]⟩
  ·rw [zaa (by simpa using hx),af ⟨by omega,by omega⟩];exact .inr ⟨_,rfl,⟨by omega,λz hz=>h2 z (zah _ hz)⟩,rfl,by simp [hx]⟩
theorem WX (b:Bk) (k:Int) (n:Nat) (h:BB n b) (hn:n<=10000):∃ y,tu b k=some y:=by
 unfold tu;have hl:=h.bl;have he:=h.ended;refine ⟨_,bp (step:=λs:Int=>ox b k s) b.bl (λs=>s) (λs r=>some (r.any λs=>(s.au==k) && !decide (s.id∈b.ended))) (λs r=>0<=s) (by omega) ?_ ?_ (s:=0) rfl (by simp)⟩
 ·rintro i h1 h2;refine ⟨_,?_,rfl⟩;unfold ox;rw [zaa (by simp only [zak];omega)];simp
 ·rintro i y r h1 h3 h4 h5 h6;unfold ox;rw [zab (by simpa using h4),af ⟨h3,h4⟩,af (λ_=>⟨h3,h4⟩),h5,DT _ _ (by omega)];by_cases ha:(y.au==k)=true
  ·simp only [ha,b9,zbu,zac,zcn];by_cases hx:y.id∈b.ended
   ·rw [zaa (by simpa using hx),af ⟨by omega,by omega⟩];exact .inr ⟨_,rfl,by omega,rfl,by simp [ha,hx]⟩
   ·rw [zab (by simpa using hx)];exact .inl ⟨_,rfl,by simp [ha,hx]⟩
  ·have PD:(y.au==k)=false:=by simpa using ha
   simp only [PD,b9,zaz,zbt,zac,zct];rw [af ⟨by omega,by omega⟩];exact .inr ⟨_,rfl,by omega,rfl,by simp [PD]⟩
def nJ (k:Int):List Bool :=
 if k=1 then [true,false,false,true,true] else if k=2 then [true,false,false,false,false] else if k=3 then [true,true,false,true,false]
 else if k=5∨k=6 then [false,true,true,false,false] else if k=7∨k=8∨k=9 then [false,true,false,true,false] else if k=14∨k=15 then [true,false,false,false,true] else [false,true,false,false,false]
theorem Rz (k:Int):qH k=some (nJ k):=by
 unfold qH nJ;have h3:∀ b:Bool,(b=true->k=14∨k=15)->(b=false->¬(k=14∨k=15))->jV b=some (if k=14∨k=15 then [true,false,false,false,true] else [false,true,false,false,false]):=λb h1 h2=>by
  unfold jV;cases b with
  | true=>rw [zab rfl,zab (h1 rfl)]
  | false=>rw [zaa (by simp),zaa (h2 rfl)]
 have h2:∀ b:Bool,(b=true->k=7∨k=8∨k=9)->(b=false->¬(k=7∨k=8∨k=9))->iE k b=some (if k=7∨k=8∨k=9 then [false,true,false,true,false] else if k=14∨k=15 then [true,false,false,false,true] else [false,true,false,false,false]):=λb h1 h2=>by
  unfold iE;cases b with
  | true=>rw [zab rfl,zab (h1 rfl)]
  | false =>
   rw [zaa (by simp),zaa (h2 rfl)];by_cases NU:k=14
   ·rw [zab (by simpa using NU)];exact h3 _ (λ_=>.inl NU) (λh=>by simp [NU] at h)
   ·rw [zaa (by simpa using NU)];exact h3 _ (λh=>.inr (by simpa using h)) (λh=>by rw [zeh] at h;omega)
 have h1:∀ b:Bool,(b=true->k=5∨k=6)->(b=false->¬(k=5∨k=6))->jW k b=some (if k=5∨k=6 then [false,true,true,false,false] else if k=7∨k=8∨k=9 then [false,true,false,true,false] else if k=14∨k=15 then [true,false,false,false,true] else [false,true,false,false,false]):=λb h1 BN=>by
  unfold jW;cases b with
  | true=>rw [zab rfl,zab (h1 rfl)]
  | false =>
   rw [zaa (by simp),zaa (BN rfl)];by_cases k7:k=7
   ·rw [zab (by simpa using k7)];exact h2 _ (λ_=>.inl k7) (λh=>by simp [k7] at h)
   rw [zaa (by simpa using k7)];by_cases k8:k=8
   ·rw [zab (by simpa using k8)];exact h2 _ (λ_=>.inr (.inl k8)) (λh=>by simp [k8] at h)
   rw [zaa (by simpa using k8)];exact h2 _ (λh=>.inr (.inr (by simpa using h))) (λh=>by rw [zeh] at h;omega)
 by_cases k1:k=1
 ·rw [zab (by simpa using k1),zab k1]
 rw [zaa (by simpa using k1),zaa k1];by_cases k2:k=2
 ·rw [zab (by simpa using k2),zab k2]
 rw [zaa (by simpa using k2),zaa k2];by_cases k3:k=3
 ·rw [zab (by simpa using k3),zab k3]
 rw [zaa (by simpa using k3),zaa k3];by_cases k5:k=5
 ·rw [zab (by simpa using k5)];exact h1 _ (λ_=>.inl k5) (λh=>by simp [k5] at h)
 rw [zaa (by simpa using k5)];exact h1 _ (λh=>.inr (by simpa using h)) (λh=>by rw [zeh] at h;omega)
theorem WY (s:List UInt8) (hl:s.length<=100000):∃ y,tq s=some y:=by
 unfold tq;by_cases h:(decide ((s.length:Int)<1) || decide ((s.length:Int) > 24))=true
 ·rw [af (by simp [h]),af (by simp [h]),zab (by simp [h])];exact ⟨_,rfl⟩
 ·have h':¬((s.length:Int)<1):=by simp at h;omega
  rw [af (λ_=>⟨by omega,by omega⟩),af (λ_=>⟨by omega,by omega⟩)];split
  ·exact ⟨_,rfl⟩
  ·refine ⟨_,bp (step:=λi:Int=>ov s i) s (λi=>i) (λi r=>some (r.all λc=>!((((decide (c<97)) || (decide (c > 122))) && ((decide (c<48)) || (decide (c > 57)))) && (c != 45)))) (λi r=>0<=i) (by omega) ?_ ?_ (s:=0) rfl (by simp)⟩
   ·rintro i h1 h2;refine ⟨_,?_,rfl⟩;unfold ov;rw [zaa (by simp only [zak];omega)];simp
   ·rintro i c r h1 h2 h3 h4 h5;unfold ov;rw [zab (by simpa using h3),af ⟨h2,h3⟩,af (λ_=>⟨h2,h3⟩),af (λ_=>⟨h2,h3⟩),af (λ_=>⟨h2,h3⟩),af (λ_=>⟨h2,h3⟩),h4];split
    ·rename_i hc;exact .inl ⟨_,rfl,by simp only [zej,hc,zci,zct]⟩
    ·rename_i hc;rw [af ⟨by omega,by omega⟩];exact .inr ⟨_,rfl,by omega,rfl,by rw [zej,Bool.not_eq_true _ |>.mp hc];rfl⟩
structure MI (e:Event) (last:Int):Prop where
 kind:1<=e.kind/\e.kind<=15
 at_:last<=e.at_
 sub:¬(e.kind=1∨e.kind=2∨e.kind=14∨e.kind=15)->1<=e.sub/\e.sub<=9999
 num:e.kind=5->e.number≠[]
 acct:e.kind=3->1<=e.au/\e.au<=9999
theorem Tg (e:Event):∃ y,rK e=some y:=by
 unfold rK;split
 ·exact ⟨_,rfl⟩
 ·split <;> exact ⟨_,rfl⟩
theorem wN {α:Type} [Inhabited α] (b:Bool) (x:α):∃ y,b9 b (some x)=some y/\(b=true->y=x):=⟨_,gn,λh=>by rw [zab h]⟩
theorem WZ (e:Event) (last:Int) (h1:e.name.length<=1000) (h2:e.number.length<=1000):∃ y,tr e last=some y/\(y=0->MI e last):=by
 obtain ⟨nb,hnb⟩:=WY e.name (by omega);obtain ⟨vb,Xf⟩:=Tg e;unfold tr;rw [Rz,hnb,E8 _ (by omega),Xf];unfold xH;simp only [zac];by_cases c1:(decide (e.kind<1) || decide (e.kind > 15))=true
 ·rw [zab c1];exact ⟨_,rfl,by omega⟩
 rw [zaa c1];by_cases c2:(decide (e.at_<0) || decide (e.at_>=12622780800))=true
 ·rw [zab c2];exact ⟨_,rfl,by omega⟩
 rw [zaa c2];by_cases c3:decide (e.at_<last)=true
 ·rw [zab c3];exact ⟨_,rfl,by omega⟩
 rw [zaa c3];have k1:1<=e.kind/\e.kind<=15:=by simp at c1;omega
 have k2:last<=e.at_:=by simpa using c3
 split
 ·exact ⟨_,rfl,by omega⟩
 obtain ⟨y2,fD,q2⟩:=wN (nth (nJ e.kind) 0) (decide (e.au>=1) && decide (e.au<=9999));rw [fD,zac];obtain ⟨y3,ju,q3⟩:=wN ((!((nth (nJ e.kind) 0) && (!y2))) && (nth (nJ e.kind) 1)) (decide (e.sub>=1) && decide (e.sub<=9999));rw [ju,zac];by_cases c5:((nth (nJ e.kind) 0 && !y2) || (nth (nJ e.kind) 1 && !y3))=true
 ·rw [zab c5];exact ⟨_,rfl,by omega⟩
 rw [zaa c5];obtain ⟨y4,nU,q4⟩:=wN (nth (nJ e.kind) 3) nb;rw [nU,zac];split
 ·exact ⟨_,rfl,by omega⟩
 obtain ⟨y5,uR,q5⟩:=wN (nth (nJ e.kind) 2) (oW e.number);rw [uR,zac];by_cases c7:(nth (nJ e.kind) 2 && !y5)=true
 ·rw [zab c7];exact ⟨_,rfl,by omega⟩
 rw [zaa c7];obtain ⟨y6,Dr,q6⟩:=wN (nth (nJ e.kind) 4) vb;rw [Dr,zac];have fin:MI e last:=by
  refine ⟨k1,k2,λhk=>?_,λhk=>?_,λhk=>?_⟩
  ·have hu:nth (nJ e.kind) 1=true:=by
    unfold nJ;rw [zaa (by omega),zaa (by omega)];split
    ·rfl
    split
    ·rfl
    split
    ·rfl
    rw [zaa (by omega)];rfl
   have c5a:(nth (nJ e.kind) 0 && !y2)=false:=by
    cases hh:(nth (nJ e.kind) 0 && !y2) with
    | false=>rfl
    | true=>rw [hh] at c5;simp at c5
   rw [c5a,hu] at q3 c5;have y3t:y3=true:=by cases y3 <;> simp_all
   have:=q3 rfl;rw [y3t] at this;simp at this;omega
  ·have hu:nth (nJ e.kind) 2=true:=by
    unfold nJ;rw [zaa (by omega),zaa (by omega),zaa (by omega),zab (.inl hk)];rfl
   rw [hu] at c7 q5;have y5t:y5=true:=by cases y5 <;> simp_all
   have hv:=q5 rfl;rw [y5t] at hv;intro hn;rw [hn] at hv;simp [oW] at hv
  ·have hu:nth (nJ e.kind) 0=true:=by
    unfold nJ;simp [hk,nth]
   rw [hu] at q2 c5;have y2t:y2=true:=by
    cases hh:y2 with
    | true=>rfl
    | false=>rw [hh] at c5;exact absurd rfl c5
   have:=q2 rfl;rw [y2t] at this;simp at this;omega
 split
 ·exact ⟨_,rfl,by omega⟩
 ·exact ⟨_,rfl,λ_=>fin⟩
def Fz (b:Bk) (n:Int):Int:=tS (λa:al=>a.id==n) b.aJ 0
theorem K9 (b:Bk) (e:Event) (n:Nat) (h:BB n b) (hn:n<=10000):∃ y,lI b e=some y/\(y=0->(e.kind=3->kS b e.sub=-1)/\(e.kind≠1->0<=Fz b e.au/\Fz b e.au<(b.aJ.length:Int))):=by
 have ha:=h.MH;have hs:=h.bl;obtain ⟨by_,DM⟩:=WX b e.au n h hn;unfold lI;rw [CC b _ (by omega),zac,Fy b _ (by omega),DM];rw [show tS (λa:al=>a.id==e.au) b.aJ 0=Fz b e.au from rfl];have sp:(Fz b e.au=-1)∨(0<=Fz b e.au/\Fz b e.au<(b.aJ.length:Int)):=by
  rcases s5 (λa:al=>a.id==e.au) b.aJ 0 (by omega) with ⟨q,_⟩|⟨q1,q2,_⟩
  ·exact .inl q
  ·exact .inr ⟨q1,by unfold Fz;omega⟩
 have sq:kS b e.sub=-1∨0<=kS b e.sub:=by
  rcases s5 (λa:Sub=>a.id==e.sub) b.bl 0 (by omega) with ⟨q,_⟩|⟨q1,q2,_⟩
  ·exact .inl q
  ·exact .inr q1
 by_cases k1:e.kind=1
 ·rw [zab (by simpa using k1)];split
  ·exact ⟨_,rfl,by omega⟩
  ·exact ⟨_,rfl,λ_=>⟨by omega,by omega⟩⟩
 rw [zaa (by simpa using k1)];by_cases k2:Fz b e.au<0
 ·rw [zab (by simpa using k2)];exact ⟨_,rfl,by omega⟩
 rw [zaa (by simpa using k2),af (by omega)];split
 ·exact ⟨_,rfl,by omega⟩
 obtain ⟨y2,fD,q2⟩:=wN (e.kind==3) (kS b e.sub);rw [fD,zac];by_cases c2:((e.kind==3) && decide (y2>=0))=true
 ·rw [zab c2];exact ⟨_,rfl,by omega⟩
 rw [zaa c2];obtain ⟨y3,ju,q3⟩:=wN (e.kind==2) by_;rw [ju,zac,af (by intro _;omega)];split
 ·exact ⟨_,rfl,by omega⟩
 refine ⟨_,rfl,λ_=>⟨λk3=>?_,λ_=>by omega⟩⟩;have e2:=q2 (by simpa using k3);rcases sq with q|q
 ·exact q
 ·exact absurd (by simp [k3,e2,q]) c2
theorem Th (b:Bk) (e:Event) (n:Nat) (h:BB n b) (hn:n<=10000):∃ y,rM b e=some y/\(y=0->(0<=kS b e.sub/\kS b e.sub<(b.bl.length:Int))/\e.sub ∉ b.ended/\(e.kind=5->∀ s,s∈b.bl->e.number ∉ s.numbers)):=by
 have hs:=h.bl;have he:=h.ended;unfold rM;rw [Fy b _ (by omega),zac];by_cases k1:kS b e.sub<0
 ·rw [zab (by simpa using k1)];exact ⟨_,rfl,by omega⟩
 rw [zaa (by simpa using k1),DT b _ (by omega),zac];by_cases k2:e.sub∈b.ended
 ·rw [zab (by simpa using k2)];exact ⟨_,rfl,by omega⟩
 rw [zaa (by simpa using k2)];have sp:0<=kS b e.sub/\kS b e.sub<(b.bl.length:Int):=by
  rcases s5 (λa:Sub=>a.id==e.sub) b.bl 0 (by omega) with ⟨q,_⟩|⟨q1,q2,_⟩
  ·unfold kS at k1;omega
  ·unfold kS;omega
 rw [af sp];have hm:=h.nums _ (oM (l:=b.bl) (k:=(kS b e.sub).toNat) (by omega));by_cases k5:e.kind=5
 ·rw [zab (by simpa using k5),Tf b _ n h hn,zac];split
  ·exact ⟨_,rfl,by omega⟩
  ·rename_i c;refine ⟨_,rfl,λ_=>⟨sp,k2,λ_ s tX hx=>c ?_⟩⟩;rw [zew];exact ⟨s,tX,by simpa using hx⟩
 rw [zaa (by simpa using k5)];have ok:∀ y:Int,∃ z,some y=some z/\(z=0->(0<=kS b e.sub/\kS b e.sub<(b.bl.length:Int))/\e.sub ∉ b.ended/\(e.kind=5->∀ s,s∈b.bl->e.number ∉ s.numbers)):=λy=>⟨y,rfl,λ_=>⟨sp,k2,λk=>absurd k k5⟩⟩
 rw [Jb _ _ (by omega),Jb _ _ (by omega)];simp only [zac];unfold kM kL
 repeat' split
 all_goals exact ok _
structure DU (b:Bk) (e:Event) (last:Int):Prop where
 form:MI e last
 acc:e.kind=2->0<=Fz b e.au/\Fz b e.au<(b.aJ.length:Int)
 add:e.kind=3->kS b e.sub=-1
 sub:¬(e.kind=1∨e.kind=2∨e.kind=3∨e.kind=14∨e.kind=15)->(0<=kS b e.sub/\kS b e.sub<(b.bl.length:Int))/\e.sub ∉ b.ended/\(e.kind=5->∀ s,s∈b.bl->e.number ∉ s.numbers)
theorem NW (b:Bk) (e:Event) (last:Int) (n:Nat) (h:BB n b) (hn:n<=10000) (h1:e.name.length<=1000) (h2:e.number.length<=1000):∃ y,o5 b e last=some y/\(y=0->DU b e last):=by
 obtain ⟨y1,e1,q1⟩:=WZ e last h1 h2;obtain ⟨y2,e2,q2⟩:=K9 b e n h hn;obtain ⟨y3,e3,q3⟩:=Th b e n h hn;unfold o5;rw [e1,zac,Rz,zac,e2,e3];by_cases c1:y1=0
 ·rw [zaa (by simpa using c1)];have f:=q1 c1;by_cases c2:nth (nJ e.kind) 0=true
  ·rw [zab c2];refine ⟨y2,rfl,λh0=>⟨f,λk=>(q2 h0).2 (by omega),λk=>(q2 h0).1 k,λk=>?_⟩⟩;exfalso;unfold nJ at c2;rw [zaa (by omega),zaa (by omega),zaa (by omega)] at c2;split at c2
   ·simp [nth] at c2
   split at c2
   ·simp [nth] at c2
   rw [zaa (by omega)] at c2;simp [nth] at c2
  ·rw [zaa c2];have k0:¬(e.kind=1∨e.kind=2∨e.kind=3∨e.kind=14∨e.kind=15):=λk=>c2 (by
    unfold nJ;rcases k with k|k|k|k|k <;> simp [k,nth])
   exact ⟨y3,rfl,λh0=>⟨f,λk=>absurd (.inr (.inl k)) k0,λk=>absurd (.inr (.inr (.inl k))) k0,λ_=>q3 h0⟩⟩
 ·rw [zab (by simpa using c1)];exact ⟨y1,rfl,λh0=>absurd h0 c1⟩
def Jt (s:Sub) (e:Event):Sub:=if e.kind=4 then { s with numbers:=[],cj:=[] } else NR s e
theorem MJ (s:Sub) (e:Event) (h1:s.numbers.length<=100000) (h2:s.cj.length<=100000):oy s e=some (Jt s e):=by
 unfold oy Jt NR;by_cases k4:e.kind=4
 ·rw [zab (by simpa using k4),zab k4]
 rw [zaa (by simpa using k4),zaa k4];by_cases k5:e.kind=5
 ·rw [zab (by simpa using k5),Rv _ _ h1,zab k5];rfl
 rw [zaa (by simpa using k5),zaa k5];by_cases k6:e.kind=6
 ·rw [zab (by simpa using k6),Hm _ _ h1,zab k6];rfl
 rw [zaa (by simpa using k6),zaa k6];by_cases k7:e.kind=7
 ·rw [zab (by simpa using k7),zab k7]
 rw [zaa (by simpa using k7),zaa k7];by_cases k8:e.kind=8
 ·rw [zab (by simpa using k8),Rv _ _ h2,zab k8];rfl
 rw [zaa (by simpa using k8),zaa k8];by_cases k9:e.kind=9
 ·rw [zab (by simpa using k9),Hm _ _ h2,zab k9];rfl
 rw [zaa (by simpa using k9),zaa k9];by_cases LN:e.kind=10
 ·rw [zab (by simpa using LN),zab LN]
 rw [zaa (by simpa using LN),zaa LN];by_cases Rx:e.kind=11
 ·rw [zab (by simpa using Rx),zab Rx]
 rw [zaa (by simpa using Rx),zaa Rx];by_cases Ta:e.kind=12
 ·rw [zab (by simpa using Ta),zab Ta]
 rw [zaa (by simpa using Ta),zaa Ta];by_cases Tb:e.kind=13
 ·rw [zab (by simpa using Tb),zab Tb]
 rw [zaa (by simpa using Tb),zaa Tb]
theorem Ti (s:Sub) (e:Event):(Jt s e).numbers.length<=s.numbers.length+1/\(Jt s e).cj.length<=s.cj.length+1:=by
 unfold Jt;split
 ·simp
 ·exact NT s e
def RA (b:Bk) (e:Event):List Sub :=
 if e.kind=3 then b.bl++[As e]
 else if e.kind=1∨e.kind=2∨e.kind=14∨e.kind=15 then b.bl
 else b.bl.set (kS b e.sub).toNat (Jt (nth b.bl (kS b e.sub).toNat) e)
def Pd (b:Bk) (e:Event):List Int:=if e.kind=4 then b.ended++[e.sub] else b.ended
theorem Jc (b:Bk) (e:Event) (last:Int) (n:Nat) (h:BB n b) (hn:n<=10000) (f:DU b e last):∃ b',gN b e=some b'/\BB (n+1) b'/\b'.bl=RA b e/\b'.ended=Pd b e:=by
 have ha:=h.MH;have hs:=h.bl;have he:=h.ended;have up:=h.up;unfold gN;rw [af (by omega),af (by omega),af (by omega)];unfold RA Pd;simp only [zbx];by_cases k1:e.kind=1
 ·have n3:¬e.kind=3:=by omega
  have n4:¬e.kind=4:=by omega
  rw [zab (by simpa using k1),af (by simp only [zal];omega),zaa n3,zab (.inl k1),zaa n4];exact ⟨_,rfl,⟨by simp only [zai,zal];omega,up.bl,up.ended,up.nums⟩,rfl,rfl⟩
 rw [zaa (by simpa using k1)];by_cases k2:e.kind=2
 ·have n3:¬e.kind=3:=by omega
  have n4:¬e.kind=4:=by omega
  have hk:=f.acc k2;rw [zab (by simpa using k2),CC b _ (by omega),zac,show tS (λa:al=>a.id==e.au) b.aJ 0=Fz b e.au from rfl,af hk,af (by omega),zaa n3,zab (.inr (.inl k2)),zaa n4];exact ⟨_,rfl,⟨by simp only [zfr];omega,up.bl,up.ended,up.nums⟩,rfl,rfl⟩
 rw [zaa (by simpa using k2)];by_cases k3:e.kind=3
 ·have n4:¬e.kind=4:=by omega
  rw [zab (by simpa using k3),af (by simp only [zal];omega),zab k3,zaa n4];refine ⟨_,rfl,⟨up.MH,by simp only [zai,zal];omega,up.ended,λs tX=>?_⟩,rfl,rfl⟩
  simp only [zbm,zca] at tX;rcases tX with tX|rfl
  ·exact up.nums s tX
  ·simp
 rw [zaa (by simpa using k3),zaa k3];have hj:∀ c:Bool,(c=true->e.kind=14∨e.kind=15)->(c=false->¬(e.kind=14∨e.kind=15))->∃ b',ja b e c=some b'/\BB (n+1) b'/\b'.bl=(if e.kind=1∨e.kind=2∨e.kind=14∨e.kind=15 then b.bl else b.bl.set (kS b e.sub).toNat (Jt (nth b.bl (kS b e.sub).toNat) e))/\b'.ended=(if e.kind=4 then b.ended++[e.sub] else b.ended):=λc hc1 Xw=>by
  unfold ja;simp only [zbx];cases c with
  | true =>
   have:=hc1 rfl;rw [zab rfl,zab (.inr (.inr this)),zaa (by omega)];exact ⟨_,rfl,up,rfl,rfl⟩
  | false =>
   have:=Xw rfl;obtain ⟨sp,_,_⟩:=f.sub (by omega);have hm:=h.nums _ (oM (l:=b.bl) (k:=(kS b e.sub).toNat) (by omega));have hc:=Ti (nth b.bl (kS b e.sub).toNat) e;rw [zaa (by simp),Fy b _ (by omega),zac,af sp,af (by omega),MJ _ _ (by omega) (by omega),zac,af sp,af (by omega)];have K5:∀ s,s∈b.bl.set (kS b e.sub).toNat (Jt (nth b.bl (kS b e.sub).toNat) e)->s.numbers.length<=n+1/\s.cj.length<=n+1:=λs tX=>by
    rcases List.mem_or_eq_of_mem_set tX with h9|rfl
    ·exact up.nums s h9
    ·omega
   rw [zaa (show ¬(e.kind=1∨e.kind=2∨e.kind=14∨e.kind=15) by omega)];by_cases k4:e.kind=4
   ·rw [zab (by simpa using k4),af (by simp only [zal];omega),zab k4];exact ⟨_,rfl,⟨up.MH,by simp only [zfr];omega,by simp only [zai,zal];omega,K5⟩,rfl,rfl⟩
   ·rw [zaa (by simpa using k4),zaa k4];exact ⟨_,rfl,⟨up.MH,by simp only [zfr];omega,up.ended,K5⟩,rfl,rfl⟩
 by_cases NU:e.kind=14
 ·rw [zab (by simpa using NU)];exact hj _ (λ_=>.inl NU) (λk=>by simp [NU] at k)
 ·rw [zaa (by simpa using NU)];exact hj _ (λk=>.inr (by simpa using k)) (λk=>by rw [zeh] at k;omega)
def b0:Bk:=⟨[],[],[]⟩
theorem bb0:BB 0 b0:=⟨by simp [b0],by simp [b0],by simp [b0],λs h=>by simp [b0] at h⟩
def MK:List Event->Int->Int->Bk->Option (Int×Int)
 | [],_,_,_=>some (0,0)
 | e::l,i,last,b=>(o5 b e last).bind λy=>if y≠0 then some (i,y) else (gN b e).bind λb'=>MK l (i+1) e.at_ b'
def VC:Bk->Int->List Event->Prop
 | _,_,[]=>True
 | b,last,e::l=>DU b e last/\∃ b',gN b e=some b'/\VC b' e.at_ l
def W0 (l:List Event):Prop:=∀ e,e∈l->e.name.length<=1000/\e.number.length<=1000
theorem NX:∀ (l:List Event) (i last:Int) (b:Bk) (n:Nat),BB n b->n+l.length<=10000->W0 l->∃ x,MK l i last b=some x/\(x.2=0->VC b last l)
 | [],i,last,b,n,_,_,_=>⟨_,rfl,λ_=>trivial⟩
 | e::l,i,last,b,n,hb,hl,hs=>by
  rw [zag] at hl;have he:=hs e (zaj ..);obtain ⟨y,hy,f⟩:=NW b e last n hb (by omega) he.1 he.2;unfold MK;rw [hy,zac];by_cases h0:y=0
  ·rw [zaa (by omega)];obtain ⟨b',ha,ka,_⟩:=Jc b e last n hb (by omega) (f h0);rw [ha,zac];obtain ⟨x,h1,h2⟩:=NX l (i+1) e.at_ b' (n+1) ka (by omega) (λz hz=>hs z (zah _ hz));exact ⟨x,h1,λh=>⟨f h0,b',ha,h2 h⟩⟩
  ·rw [zab h0];exact ⟨_,rfl,λh=>absurd h h0⟩
theorem ML (cR:List Event) (hl:cR.length<=1000) (hs:W0 cR):rN cR=MK cR 0 0 b0:=by
 unfold rN;rw [zaa (by simp;omega)];refine bp (step:=λs:Int×Int×List al×List Sub×List Int=>mL cR s.1 s.2.1 s.2.2.1 s.2.2.2.1 s.2.2.2.2) cR (λs=>s.2.1) (λs r=>MK r s.2.1 s.1 ⟨s.2.2.1,s.2.2.2.1,s.2.2.2.2⟩)
  (λs r=>0<=s.2.1/\W0 r/\∃ n,BB n ⟨s.2.2.1,s.2.2.2.1,s.2.2.2.2⟩/\n+r.length<=10000) (by omega) ?_ ?_ (s:=(0,0,[],[],[])) rfl ⟨by simp,hs,0,bb0,by omega⟩
 ·rintro ⟨last,i,a,s,en⟩ ⟨h1,_⟩ h2
  try simp only at h2
  refine ⟨(0,0),?_,rfl⟩;unfold mL;rw [zaa (by simp only [zak];omega)]
 ·rintro ⟨last,i,a,s,en⟩ e r ⟨h1,sC,n,hb,h2⟩ h3 h4 h5 h6;simp only at h1 h2 h3 h4 h5 h6 hb;rw [zag] at h2;have he:=sC e (zaj ..);obtain ⟨y,hy,f⟩:=NW ⟨a,s,en⟩ e last n hb (by omega) he.1 he.2;unfold mL;simp only;rw [zab (by simpa using h4),af ⟨h3,h4⟩,h5,hy,zac];by_cases h0:y=0
  ·obtain ⟨b',ha,ka,_⟩:=Jc ⟨a,s,en⟩ e last n hb (by omega) (f h0);rw [zaa (by simpa using h0),af ⟨h3,h4⟩,ha,zac,af ⟨h3,h4⟩,af ⟨by omega,by omega⟩];refine .inr ⟨(e.at_,i+1,b'.aJ,b'.bl,b'.ended),rfl,⟨by simp only;omega,λz hz=>sC z (zah _ hz),n+1,ka,by omega⟩,rfl,?_⟩
   simp only;rw [MK,hy,zac,zaa (by omega),ha,zac]
  ·rw [zab (by simpa using h0)];refine .inl ⟨_,rfl,?_⟩
   try simp only
   rw [MK,hy,zac,zab h0]
theorem ZC (cR:List Event):∃ c,vv cR=some c/\(c=true->cR.length<=40/\W0 cR/\VC b0 0 cR):=by
 unfold vv;refine qp (step:=λs:Int=>sL cR s) (λc=>c=true->cR.length<=40/\W0 cR/\VC b0 0 cR) (λi=>0<=i/\i<=(cR.length:Int)/\i<=41/\W0 (cR.take i.toNat)) (λi=>(41-i).toNat) ?_ (s:=0) ⟨by omega,by omega,by omega,λe h=>by simp at h⟩ (by omega);rintro i ⟨h0,h1,h2,h3⟩;unfold sL;by_cases hc:i<(cR.length:Int)/\i<41
 ·rw [zab (by simpa using hc),af ⟨h0,hc.1⟩,af (λ_=>⟨h0,hc.1⟩)];split
  ·exact .inl ⟨_,rfl,λh=>by simp at h⟩
  ·rename_i hb;rw [af ⟨by omega,by omega⟩];refine .inr ⟨i+1,rfl,⟨by omega,by omega,by omega,?_⟩,by omega⟩;rw [show (i+1).toNat=i.toNat+1 from by omega,pj (by omega)];intro e he;rcases zbm.1 he with he|he
   ·exact h3 e he
   ·rw [zca.1 he];simp at hb;omega
 ·rw [zaa (by simpa using hc)];unfold pR;by_cases h40:(cR.length:Int) > 40
  ·rw [zab (by simpa using h40)];exact .inl ⟨_,rfl,λh=>by simp at h⟩
  ·rw [zaa (by simpa using h40)];have hs:W0 cR:=by
    have:cR.take i.toNat=cR:=zbw (by omega);rw [this] at h3;exact h3
   obtain ⟨x,hx,hv⟩:=NX cR 0 0 b0 0 bb0 (by omega) hs;rw [ML cR (by omega) hs,hx];exact .inl ⟨_,rfl,λh=>⟨by omega,hs,hv (by simpa using h)⟩⟩
theorem Ho {n:Nat} {w:W7} (h:WB n w):∀ s,s∈jJ w->s.numbers.length<=n:=λs hs=>by
 obtain ⟨k,_,hk⟩:=List.mem_filterMap.1 hs;exact (h.nums k s hk).1
theorem La {n:Nat} {w:W7} (h:WB n w):(jJ w).length<=n:=zdg (List.length_filterMap_le ..) h.added
theorem RB (cR:List Event) (r:aa) (id:Int) (hl:cR.length<=5000) (hs:Sm r):∃ w,K6 r.start cR w0=some w/\fQ cR r id=some (Ja (jJ w) r id):=by
 obtain ⟨w,a,h1,h2,h3⟩:=Tc cR r.start hl;have:=Te cR r id ⟨a,jJ w⟩ h3 (by have:=La h2;simp only;omega) (λs tX=>by have:=Ho h2 s tX;omega) hs;exact ⟨w,h1,this⟩
theorem RC (u:aC):ew (aC.bP u) (aC.bP u)=true:=by
 simp [aC.bP,ew,LO]
abbrev sj (b:Bk):List Int:=b.bl.map (·.id)
structure vO (n:Nat) (w:W7) (b:Bk):Prop where
 wb:WB n w
 bb:BB n b
 ids:(sj b).Nodup
 XA:w.2.1.Pairwise (· < ·)
 mem:∀ k,k∈w.2.1↔k∈sj b
 ev:∀ k,(aB w.2.2.2.2.1 k).getD false=true↔k∈sj b
 look:∀ s,s∈b.bl->aB w.2.2.2.1 s.id=if s.id∈b.ended then none else some s
 keys:∀ k,k ∉ sj b->aB w.2.2.2.1 k=none
 XB:∀ k,k∈sj b->1<=k/\k<=9999
 RD:b.ended.Nodup
 Pe:∀ k,k∈b.ended->k∈sj b
 num:∀ s s' x,s∈b.bl->s'∈b.bl->x∈s.numbers->x∈s'.numbers->s.id=s'.id
 ne:∀ s,s∈b.bl->[] ∉ s.numbers
 acc:∀ s,s∈b.bl->1<=s.au/\s.au<=9999
theorem inv0:vO 0 w0 b0:=⟨wb0,bb0,by simp [sj,b0],by simp [w0],λk=>by simp [w0,b0],λk=>by simp [w0,b0,aB],λs h=>by simp [b0] at h,λk _=>by simp [w0,aB],λk h=>by simp [b0] at h,by simp [b0],λk h=>by simp [b0] at h,λs s' x h=>by simp [b0] at h,λs h=>by simp [b0] at h,λs h=>by simp [b0] at h⟩
theorem NY (f:Sub->Int) (y:Sub):∀ (l:List Sub) (i:Nat),i<l.length->f y=f (nth l i)->(l.set i y).map f=l.map f
 | [],i,h,_=>by simp at h
 | a::l,0,_,h=>by rw [eY] at h;simp [h]
 | a::l,i+1,h,hy=>by
  rw [eG] at hy;rw [List.set_cons_succ,zao,zao,NY f y l i (by rw [zag] at h;omega) hy]
theorem NZ (y:Sub):∀ (l:List Sub) (i:Nat),i<l.length->(l.map (·.id)).Nodup->y.id=(nth l i).id->∀ s,s∈l.set i y->s=y∨(s∈l/\s.id≠y.id)
 | [],i,h,_,_,_,_=>by simp at h
 | a::l,0,_,hn,h,s,hs=>by
  rw [eY] at h;rw [List.set_cons_zero,zaq] at hs;rw [zao,zby] at hn;rcases hs with hs|hs
  ·exact .inl hs
  ·exact .inr ⟨zah _ hs,λe=>hn.1 (by rw [←h,←e];exact zcs hs)⟩
 | a::l,i+1,h,hn,hy,s,hs=>by
  rw [eG] at hy;rw [zag] at h;rw [List.set_cons_succ,zaq] at hs;rw [zao,zby] at hn;rcases hs with rfl|hs
  ·exact .inr ⟨zaj ..,λe=>hn.1 (by rw [e,hy];exact zcs (oM (by omega)))⟩
  ·rcases NZ y l i (by omega) hn.2 hy s hs with h1|⟨h1,h2⟩
   ·exact .inl h1
   ·exact .inr ⟨zah _ h1,h2⟩
theorem W3 (s:Sub) (e:Event):(NR s e).id=s.id:=by
 unfold NR;repeat' split
 all_goals rfl
theorem W4 (s:Sub) (e:Event):(Jt s e).id=s.id:=by
 unfold Jt;split
 ·rfl
 ·exact W3 s e
theorem Tj (s:Sub) (e:Event):(Jt s e).au=s.au:=by
 unfold Jt NR;repeat' split
 all_goals rfl
theorem Tk (x z:List UInt8) (l:List (List UInt8)) (h:z∈Gz x l):z∈l:=(zcl.1 h).1
theorem FA (s:Sub) (e:Event):∀ x,x∈(Jt s e).numbers->(e.kind=5/\x=e.number)∨x∈s.numbers:=λx hx=>by
 unfold Jt NR at hx
 repeat' split at hx
 all_goals first|(simp at hx;done)|exact .inr hx|skip
 ·rename_i k5;rcases (DS _ _ _ _).1 hx with h|h
  ·exact .inl ⟨k5,h⟩
  ·exact .inr h
 ·exact .inr (Tk _ _ _ hx)
theorem yD (b:Bk) (k:Int):(kS b k=-1/\k ∉ sj b)∨(0<=kS b k/\kS b k<(b.bl.length:Int)/\(nth b.bl (kS b k).toNat).id=k):=by
 rcases s5 (λa:Sub=>a.id==k) b.bl 0 (by omega) with ⟨q,h⟩|⟨q1,q2,q3⟩
 ·refine .inl ⟨q,λhm=>?_⟩;obtain ⟨s,h1,h2⟩:=zdj.1 hm;have:=h s h1;simp [h2] at this
 ·refine .inr ⟨q1,by unfold kS;omega,?_⟩;rw [show (tS (λa:Sub=>a.id==k) b.bl 0-0).toNat=(kS b k).toNat from by unfold kS;omega] at q3;simpa using q3
theorem N0 (x:Int):∀ (l:List Int),l.Pairwise (· < ·)->x ∉ l->(vN Gy x l).Pairwise (· < ·)
 | [],_,_=>by simp [vN]
 | y::t,h,hx=>by
  rw [zax] at h;rw [zaq,not_or] at hx;unfold vN;by_cases hy:Gy y x=true
  ·rw [zab hy,zax];refine ⟨λz hz=>?_,N0 x t h.2 hx.2⟩;rcases (DS _ _ _ _).1 hz with rfl|hz
   ·simpa [Gy] using hy
   ·exact h.1 z hz
  ·rw [zaa hy,zax,zax];have cE:x<y:=by simp [Gy] at hy;omega
   refine ⟨λz hz=>?_,h⟩;rcases zaq.1 hz with rfl|hz
   ·exact cE
   ·have:=h.1 z hz;omega
theorem vO.up {n:Nat} {w:W7} {b:Bk} (h:vO n w b):vO (n+1) w b:={ h with wb:=h.wb.up,bb:=h.bb.up }
theorem vO.find {n:Nat} {w:W7} {b:Bk} (h:vO n w b) {s s':Sub} (hs:s∈b.bl) (tX:s'∈b.bl) (e:s.id=s'.id):s=s':=by
 have key:∀ (l:List Sub),(l.map (·.id)).Nodup->s∈l->s'∈l->s=s':=by
  intro l
  induction l with
  | nil=>intro _ h;simp at h
  | cons a l ih =>
   intro hn h1 h2;rw [zao,zby] at hn;rcases zaq.1 h1 with h3|h3
   ·rcases zaq.1 h2 with h4|h4
    ·rw [h3,h4]
    ·exact absurd (by rw [←h3,e];exact zcs h4) hn.1
   ·rcases zaq.1 h2 with h4|h4
    ·exact absurd (by rw [←h4,←e];exact zcs h3) hn.1
    ·exact ih hn.2 h3 h4
 exact key _ h.ids hs tX
theorem RE (n:Nat) (w:W7) (b:Bk) (e:Event) (last:Int) (h:vO n w b) (hn:n<=10000) (f:DU b e last):∃ w' b',Z9 e w=some w'/\gN b e=some b'/\vO (n+1) w' b':=by
 obtain ⟨w',e1,hw,ea,es,ee⟩:=I7 n e w h.wb hn;obtain ⟨b',e2,hb,bs,be⟩:=Jc b e last n h.bb hn f;refine ⟨w',b',e1,e2,?_⟩;by_cases k0:e.kind=1∨e.kind=2∨e.kind=14∨e.kind=15
 ·have n3:¬e.kind=3:=by omega
  have n4:¬e.kind=4:=by omega
  unfold Rw at ea;rw [zaa (λk=>n3 k.1)] at ea;unfold Pb at es;rw [zaa n3,zaa n4,zab k0] at es;unfold ZA at ee;rw [zaa n3] at ee;unfold RA at bs;rw [zaa n3,zab k0] at bs;unfold Pd at be;rw [zaa n4] at be;have hi:sj b'=sj b:=by unfold sj;rw [bs]
  exact ⟨hw,hb,by rw [hi];exact h.ids,by rw [ea];exact h.XA,by rw [ea,hi];exact h.mem,by rw [ee,hi];exact h.ev,by rw [es,bs,be];exact h.look,by rw [es,hi];exact h.keys,by rw [hi];exact h.XB,by rw [be];exact h.RD,by rw [be,hi];exact h.Pe,by rw [bs];exact h.num,by rw [bs];exact h.ne,by rw [bs];exact h.acc⟩
 by_cases k3:e.kind=3
 ·have n4:¬e.kind=4:=by omega
  have hadd:=f.add k3;have ZD:e.sub ∉ sj b:=by
   rcases yD b e.sub with ⟨_,q⟩|⟨q,_⟩
   ·exact q
   ·omega
  have hr:=f.form.sub k0;have PE:(aB w.2.2.2.2.1 e.sub).getD false=false:=by
   cases hh:(aB w.2.2.2.2.1 e.sub).getD false with
   | false=>rfl
   | true=>exact absurd ((h.ev _).1 hh) ZD
  unfold Rw at ea;rw [zab ⟨k3,PE⟩] at ea;unfold Pb at es;rw [zab k3] at es;unfold ZA at ee;rw [zab k3] at ee;unfold RA at bs;rw [zab k3] at bs;unfold Pd at be;rw [zaa n4] at be;have hi:sj b'=sj b++[e.sub]:=by unfold sj;rw [bs,zdr];rfl
  have eT:e.sub ∉ b.ended:=λk=>ZD (h.Pe _ k)
  refine ⟨hw,hb,?_,?_,?_,?_,?_,?_,?_,?_,?_,?_,?_,?_⟩
  ·rw [hi,zdm];exact ⟨h.ids,by simp,λa ha c hc=>by rw [zca.1 hc];exact λq=>ZD (q▸ha)⟩
  ·rw [ea];exact N0 _ _ h.XA (λk=>ZD ((h.mem _).1 k))
  ·intro k;rw [ea,DS,hi,zbm,zca,h.mem k];exact Or.comm
  ·intro k;rw [ee,fe,hi,zbm,zca];by_cases hk:k=e.sub
   ·simp [hk]
   ·rw [zaa (by simpa using hk),h.ev k];simp [hk]
  ·intro s hs;rw [bs,zbm,zca] at hs;rw [es,be,fe];rcases hs with hs|rfl
   ·have:s.id≠e.sub:=λq=>ZD (by rw [←q];exact zcs hs);rw [zaa (by simpa using this)];exact h.look s hs
   ·rw [zab (by simp [As]),zaa (by simpa [As] using eT)]
  ·intro k hk;rw [hi,zbm,zca,not_or] at hk;rw [es,fe,zaa (by simpa using hk.2)];exact h.keys k hk.1
  ·intro k hk;rw [hi,zbm,zca] at hk;rcases hk with hk|rfl
   ·exact h.XB k hk
   ·exact hr
  ·rw [be];exact h.RD
  ·intro k hk;rw [be] at hk;rw [hi,zbm];exact .inl (h.Pe k hk)
  ·intro s s' x hs tX hx jK;rw [bs,zbm,zca] at hs tX;rcases hs with hs|rfl
   ·rcases tX with tX|rfl
    ·exact h.num s s' x hs tX hx jK
    ·simp [As] at jK
   ·simp [As] at hx
  ·intro s hs;rw [bs,zbm,zca] at hs;rcases hs with hs|rfl
   ·exact h.ne s hs
   ·simp [As]
  ·intro s hs;rw [bs,zbm,zca] at hs;rcases hs with hs|rfl
   ·exact h.acc s hs
   ·exact f.form.acct k3
 obtain ⟨⟨s0,s1⟩,eT,h5⟩:=f.sub (by omega);have hid:(nth b.bl (kS b e.sub).toNat).id=e.sub:=by
  rcases yD b e.sub with ⟨q,_⟩|⟨_,_,q⟩
  ·omega
  ·exact q
 have Pv:nth b.bl (kS b e.sub).toNat∈b.bl:=oM (by omega);have cE:(kS b e.sub).toNat<b.bl.length:=by omega
 generalize gS:(kS b e.sub).toNat=i at hid Pv cE;generalize Lo:nth b.bl i=s at hid Pv;unfold Rw at ea;rw [zaa (λk=>k3 k.1)] at ea;unfold ZA at ee;rw [zaa k3] at ee;unfold RA at bs;rw [zaa k3,zaa k0,gS,Lo] at bs;have qc:(Jt s e).id=s.id:=W4 s e;have hi:sj b'=sj b:=by unfold sj;rw [bs];exact NY _ _ _ _ cE (by rw [Lo];exact qc)
 have tV:∀ z,z∈b'.bl->z=Jt s e∨(z∈b.bl/\z.id≠e.sub):=λz hz=>by
  rw [bs] at hz;have:=NZ _ _ _ cE h.ids (by rw [Lo];exact qc) z hz
  rwa [qc,hid] at this
 have hnn:∀ z z' x,z∈b'.bl->z'∈b'.bl->x∈z.numbers->x∈z'.numbers->z.id=z'.id:=λz z' x hz zN hx jK=>by
  rcases tV z hz with rfl|⟨hz,ZE⟩
  ·rcases tV z' zN with rfl|⟨zN,hzi'⟩
   ·rfl
   ·rcases FA s e x hx with ⟨k5,rfl⟩|hx
    ·exact absurd jK (h5 k5 z' zN)
    ·rw [qc];exact h.num s z' x Pv zN hx jK
  ·rcases tV z' zN with rfl|⟨zN,hzi'⟩
   ·rcases FA s e x jK with ⟨k5,rfl⟩|jK
    ·exact absurd hx (h5 k5 z hz)
    ·rw [qc];exact h.num z s x hz Pv hx jK
   ·exact h.num z z' x hz zN hx jK
 have o9:∀ z,z∈b'.bl->[] ∉ z.numbers:=λz hz hx=>by
  rcases tV z hz with rfl|⟨hz,_⟩
  ·rcases FA s e [] hx with ⟨k5,hx⟩|hx
   ·exact f.form.num k5 hx.symm
   ·exact h.ne s Pv hx
  ·exact h.ne z hz hx
 have Ug:∀ z,z∈b'.bl->1<=z.au/\z.au<=9999:=λz hz=>by
  rcases tV z hz with rfl|⟨hz,_⟩
  ·rw [Tj];exact h.acc s Pv
  ·exact h.acc z hz
 have ZF:e.sub∈sj b:=by rw [←hid];exact zcs Pv
 by_cases k4:e.kind=4
 ·unfold Pb at es;rw [zaa k3,zab k4] at es;unfold Pd at be;rw [zab k4] at be;refine ⟨hw,hb,by rw [hi];exact h.ids,by rw [ea];exact h.XA,by rw [ea,hi];exact h.mem,by rw [ee,hi];exact h.ev,?_,?_,by rw [hi];exact h.XB,?_,?_,hnn,o9,Ug⟩
  ·intro z hz;rw [es,be,sR _ _ h.wb.keys];rcases tV z hz with rfl|⟨hz,ZE⟩
   ·rw [qc,hid,zab (by simp),zab (by simp)]
   ·rw [zaa (by simpa using ZE),h.look z hz];simp [ZE]
  ·intro k hk;rw [hi] at hk;rw [es,sR _ _ h.wb.keys];split
   ·rfl
   ·exact h.keys k hk
  ·rw [be,zdm];exact ⟨h.RD,by simp,λa ha c hc=>by rw [zca.1 hc];exact λq=>eT (q▸ha)⟩
  ·intro k hk;rw [be,zbm,zca] at hk;rw [hi];rcases hk with hk|rfl
   ·exact h.Pe k hk
   ·exact ZF
 ·unfold Pb at es;rw [zaa k3,zaa k4,zaa k0] at es;unfold Pd at be;rw [zaa k4] at be;have hl:=h.look s Pv;rw [hid,zaa eT] at hl;rw [hl] at es;simp only at es;have Jp:Jt s e=NR s e:=by unfold Jt;rw [zaa k4]
  refine ⟨hw,hb,by rw [hi];exact h.ids,by rw [ea];exact h.XA,by rw [ea,hi];exact h.mem,by rw [ee,hi];exact h.ev,?_,?_,by rw [hi];exact h.XB,by rw [be];exact h.RD,by rw [be,hi];exact h.Pe,hnn,o9,Ug⟩
  ·intro z hz;rw [es,be,fe];rcases tV z hz with rfl|⟨hz,ZE⟩
   ·rw [qc,hid,zab (by simp),zaa eT,Jp]
   ·rw [zaa (by simpa using ZE)];exact h.look z hz
  ·intro k hk;rw [hi] at hk;have:k≠e.sub:=λq=>hk (q▸ZF)
   rw [es,fe,zaa (by simpa using this)];exact h.keys k hk
def Lu (t:Int):List Event->Bk->Option Bk
 | [],b=>some b
 | e::l,b=>if e.at_<=t then (gN b e).bind (Lu t l) else Lu t l b
theorem Lb:∀ (l:List Event) (b:Bk) (last:Int),VC b last l->∀ e,e∈l->last<=e.at_
 | [],_,_,_,e,h=>by simp at h
 | a::l,b,last,h,e,he=>by
  obtain ⟨f,b',_,hv⟩:=h;have h1:=f.form.at_;rcases zaq.1 he with rfl|he
  ·exact h1
  ·have:=Lb l b' a.at_ hv e he;omega
theorem Lc (t:Int) (w:W7) (b:Bk):∀ (l:List Event),(∀ e,e∈l->t<e.at_)->K6 t l w=some w/\Lu t l b=some b
 | [],_=>⟨rfl,rfl⟩
 | e::l,h=>by
  have he:=h e (zaj ..);rw [K6,zaa (by omega),Lu,zaa (by omega)];exact Lc t w b l λz hz=>h z (zah _ hz)
theorem RF {n m:Nat} {w:W7} {b:Bk} (h:vO n w b) (hm:n<=m):vO m w b:=by
 induction m with
 | zero=>rwa [show n=0 from by omega] at h
 | succ m ih =>
  by_cases e:n=m+1
  ·rwa [e] at h
  ·exact (ih (by omega)).up
theorem N1 (t:Int):∀ (l:List Event) (n:Nat) (w:W7) (b:Bk) (last:Int),vO n w b->n+l.length<=10000->VC b last l->∃ w' b',K6 t l w=some w'/\Lu t l b=some b'/\vO (n+l.length) w' b'
 | [],n,w,b,_,h,_,_=>⟨w,b,rfl,rfl,h⟩
 | e::l,n,w,b,last,h,hn,hv=>by
  have LJ:=hv;obtain ⟨f,b1,D2,hv⟩:=hv;rw [zag] at hn ⊢;by_cases ht:e.at_<=t
  ·obtain ⟨w',b',e1,e2,hi⟩:=RE n w b e last h (by omega) f;rw [D2] at e2;cases e2;obtain ⟨w2,b2,q1,q2,q3⟩:=N1 t l (n+1) w' b1 e.at_ hi (by omega) hv;refine ⟨w2,b2,?_,?_,?_⟩
   ·rw [K6,zab ht,e1];exact q1
   ·rw [Lu,zab ht,D2];exact q2
   ·rw [show n+(l.length+1)=n+1+l.length from by omega];exact q3
  ·have hs:∀ z,z∈e::l->t<z.at_:=λz hz=>by
    rcases zaq.1 hz with rfl|hz
    ·omega
    ·have:=Lb l b1 e.at_ hv z hz;omega
   obtain ⟨q1,q2⟩:=Lc t w b _ hs;exact ⟨w,b,q1,q2,RF h (by omega)⟩
theorem RG (cR:List Event) (t:Int) (b:Bk) (hl:cR.length<=10000) (h:Lu t cR b0=some b):qK cR t=some b:=by
 unfold qK;rw [←h];refine bp (step:=λs:Int×List al×List Sub×List Int=>oz cR t s.1 s.2.1 s.2.2.1 s.2.2.2) cR (λs=>s.1) (λs r=>Lu t r ⟨s.2.1,s.2.2.1,s.2.2.2⟩) (λs r=>0<=s.1/\Lu t r ⟨s.2.1,s.2.2.1,s.2.2.2⟩=some b) (by omega) ?_ ?_ (s:=(0,[],[],[])) rfl ⟨by simp,h⟩
 ·rintro ⟨i,a,s,en⟩ ⟨h1,_⟩ h2;simp only at h1 h2;refine ⟨_,?_,rfl⟩;unfold oz;rw [zaa (by simp only [zak];omega)]
 ·rintro ⟨i,a,s,en⟩ e r ⟨h1,h2⟩ h3 h4 h5 h6;simp only at h1 h2 h3 h4 h5 h6;unfold oz;simp only;rw [zab (by simpa using h4),af ⟨h3,h4⟩,h5];rw [Lu] at h2 ⊢;by_cases ha:e.at_<=t
  ·rw [zab ha] at h2 ⊢;rw [zab (by simpa using ha),af ⟨h3,h4⟩];cases hb:gN ⟨a,s,en⟩ e with
   | none=>rw [hb] at h2;cases h2
   | some b' =>
    rw [hb] at h2;rw [zac,af ⟨by omega,by omega⟩];exact .inr ⟨(i+1,b'.aJ,b'.bl,b'.ended),rfl,⟨by simp only;omega,h2⟩,rfl,rfl⟩
  ·rw [zaa ha] at h2 ⊢;rw [zaa (by simpa using ha),af ⟨by omega,by omega⟩];exact .inr ⟨(i+1,a,s,en),rfl,⟨by simp only;omega,h2⟩,rfl,rfl⟩
theorem Hp:∀ (l m:List Int),l.Nodup->(∀ k,k∈l->k∈m)->l.length<=m.length
 | [],m,_,_=>by simp
 | a::l,m,hn,h=>by
  rw [zby] at hn;have ha:=h a (zaj ..);have:=Hp l (m.erase a) hn.2 (λk hk=>(List.mem_erase_of_ne (λq=>hn.1 (by rw [←q];exact hk))).2 (h k (zah _ hk)));rw [List.length_erase_of_mem ha] at this;have:=List.length_pos_of_mem ha;rw [zag];omega
section state
variable {n:Nat} {w:W7} {b:Bk}
theorem vO.N2 (h:vO n w b) {k:Int} {s:Sub} (hs:aB w.2.2.2.1 k=some s):s∈b.bl/\s.id=k/\k ∉ b.ended:=by
 by_cases hk:k∈sj b
 ·obtain ⟨z,h1,h2⟩:=zdj.1 hk;have:=h.look z h1;rw [h2,hs] at this;split at this
  ·cases this
  ·cases this;exact ⟨h1,h2,by assumption⟩
 ·rw [h.keys k hk] at hs;cases hs
theorem vO.Pf (h:vO n w b) {k:Int} (hk:k∈sj b) (he:k ∉ b.ended):∃ s,aB w.2.2.2.1 k=some s/\s∈b.bl/\s.id=k:=by
 obtain ⟨z,h1,h2⟩:=zdj.1 hk;have:=h.look z h1;rw [h2,zaa he] at this;exact ⟨z,this,h1,h2⟩
theorem vO.Hq (h:vO n w b) {k:Int} (he:k∈b.ended):aB w.2.2.2.1 k=none:=by
 cases hs:aB w.2.2.2.1 k with
 | none=>rfl
 | some s=>exact absurd he (h.N2 hs).2.2
theorem vO.Ld (h:vO n w b):∀ (l:List Int),(∀ k,k∈l->k∈sj b)->(l.filterMap (aB w.2.2.2.1)).map (·.id)=l.filter λk=>decide (k ∉ b.ended)
 | [],_=>rfl
 | k::l,hl=>by
  have ih:=vO.Ld h l λz hz=>hl z (zah _ hz)
  by_cases he:k∈b.ended
  ·rw [zdy,h.Hq he,zbo,zaa (by simpa using he)];exact ih
  ·obtain ⟨s,h1,_,h3⟩:=h.Pf (hl k (zaj ..)) he;rw [zdy,h1,zbo,zab (by simpa using he),zao,ih,h3]
theorem vO.Jd (h:vO n w b):(jJ w).map (·.id)=w.2.1.filter λk=>decide (k ∉ b.ended):=h.Ld _ λk hk=>(h.mem k).1 hk
theorem vO.addN (h:vO n w b):w.2.1.Nodup:=h.XA.imp λh=>by omega
theorem vO.Uh (h:vO n w b):((jJ w).map (·.id)).Nodup:=by rw [h.Jd];exact List.Pairwise.filter _ h.addN
theorem vO.BE (h:vO n w b) {s:Sub} (hs:s∈jJ w):s∈b.bl/\s.id ∉ b.ended:=by
 obtain ⟨k,_,hk⟩:=List.mem_filterMap.1 hs;obtain ⟨h1,h2,h3⟩:=h.N2 hk;exact ⟨h1,by rw [h2];exact h3⟩
theorem vO.count (h:vO n w b):(jJ w).length+b.ended.length<=b.bl.length:=by
 have:=Hp ((jJ w).map (·.id)++b.ended) (sj b) (by
  rw [zdm];refine ⟨h.Uh,h.RD,λa ha c hc=>?_⟩;rw [h.Jd,zcl] at ha;intro q;have:=ha.2;simp at this;exact this (q▸hc)) (λk hk=>by
  rcases zbm.1 hk with hk|hk
  ·rw [h.Jd,zcl] at hk;exact (h.mem k).1 hk.1
  ·exact h.Pe k hk)
 simpa [sj] using this
theorem filter_lt:∀ (l:List Int) (k:Int),l.Pairwise (· < ·)->l.filter (λz=>decide (z<k+1))=l.filter (λz=>decide (z<k))++if k∈l then [k] else []
 | [],k,_=>rfl
 | a::l,k,h=>by
  rw [zax] at h;have ih:=filter_lt l k h.2;by_cases h1:a<k
  ·rw [zbo,zab (by simp;omega),zbo,zab (by simp;omega),ih,List.cons_append];have:(k∈a::l)=(k∈l):=by simp;intro q;omega
   simp only [this]
  ·have hz:∀ z,z∈l->¬z<k:=λz hz=>by have:=h.1 z hz;omega
   have e1:l.filter (λz=>decide (z<k))=[]:=zdl.2 λz zN=>by simpa using hz z zN
   by_cases h2:a=k
   ·have e2:l.filter (λz=>decide (z<k+1))=[]:=zdl.2 λz zN=>by have:=h.1 z zN;simp;omega
    rw [zbo,zab (by simp;omega),zbo,zaa (by simp;omega),e1,e2,h2,zab (zaj ..)];rfl
   ·have hk:k ∉ l:=λq=>hz k q (by have:=h.1 k q;omega);rw [zbo,zaa (by simp;omega),zbo,zaa (by simp;omega),ih];have:k ∉ a::l:=by simp;exact ⟨λq=>h2 q.symm,hk⟩
    rw [zaa hk,zaa this]
theorem W5 (b:Bk) (L:List Sub) (h1:b.aJ.length<=100000) (h2:L.length<=100000):∃ a,kO b L=some ⟨a,L⟩:=by
 unfold kO;have:=qp (step:=λs:Int×List al=>pX b L s.1 s.2) (λc=>c.bl=L) (λs=>1<=s.1/\s.1<=10000/\s.2.length<=100000) (λs=>(10000-s.1).toNat) ?_ (s:=(1,[])) ⟨by omega,by omega,by simp⟩ (by omega)
 ·obtain ⟨c,hc,e⟩:=this;exact ⟨c.aJ,by rw [hc,←e]⟩
 rintro ⟨k,a⟩ ⟨k1,k2,k3⟩;simp only at k1 k2 k3;unfold pX;by_cases c:k<=9999/\(a.length:Int)<(b.aJ.length:Int)
 ·rw [zab (by simpa using c),CC b k (by omega),zac];split
  ·rw [af ⟨by omega,by omega⟩];exact .inr ⟨(k+1,a),rfl,⟨by simp only;omega,by simp only;omega,k3⟩,by simp only;omega⟩
  ·rename_i hn;have sp:0<=tS (λa:al=>a.id==k) b.aJ 0/\tS (λa:al=>a.id==k) b.aJ 0<(b.aJ.length:Int):=by
    simp at hn;rcases s5 (λa:al=>a.id==k) b.aJ 0 (by omega) with ⟨q,_⟩|⟨q1,q2,_⟩
    ·omega
    ·omega
   rw [af sp];generalize tS (λa:al=>a.id==k) b.aJ 0=y;have:=qp (step:=λs:Int×List Int=>pV b L k a y s.1 s.2) (λr=>∃ x,r=.inl (k+1,a++[x])) (λs=>0<=s.1/\s.1<=(L.length:Int)/\(s.2.length:Int)<=s.1) (λs=>((L.length:Int) - s.1).toNat) ?_ (s:=(0,[])) ⟨by simp,by simp,by simp⟩ (by simp;omega)
   ·obtain ⟨r,hr,x,rfl⟩:=this;exact .inr ⟨(k+1,a++[x]),hr,⟨by simp only;omega,by simp only;omega,by simp only [zai,zal];omega⟩,by simp only;omega⟩
   rintro ⟨i,o⟩ ⟨i1,i2,i3⟩;simp only at i1 i2 i3;unfold pV;by_cases hi:i<(L.length:Int)
   ·rw [zab (by simpa using hi),af ⟨i1,hi⟩];split
    ·rw [af ⟨i1,hi⟩,af (by simp only [zal];omega),af ⟨by omega,by omega⟩];exact .inr ⟨(i+1,o++[(nth L i.toNat).id]),rfl,⟨by simp only;omega,by simp only;omega,by simp only [zai,zal];omega⟩,by simp only;omega⟩
    ·rw [af ⟨by omega,by omega⟩];exact .inr ⟨(i+1,o),rfl,⟨by simp only;omega,by simp only;omega,by simp only;omega⟩,by simp only;omega⟩
   ·rw [zaa (by simpa using hi)];unfold mN;rw [af (by simp only [zal];omega),af ⟨by omega,by omega⟩];exact .inl ⟨_,rfl,_,rfl⟩
 ·rw [zaa (by simpa using c)];exact .inl ⟨_,rfl,rfl⟩
theorem RH (cR:List Event) (t:Int) (hl:cR.length<=10000) (hu:Lu t cR b0=some b) (h:vO n w b) (hn:n<=10000):∃ a,rP cR t=some ⟨a,jJ w⟩:=by
 unfold rP;rw [RG cR t b hl hu,zac];have hs:=h.bb.bl;have ha:=h.bb.MH;have he:=h.bb.ended;have hc:=h.count
 let A:Int->List Sub:=λk=>(w.2.1.filter λz=>decide (z<k)).filterMap (aB w.2.2.2.1)
 have sub:∀ k,(A k).Sublist (jJ w):=λk=>List.Sublist.filterMap _ (List.filter_sublist ..)
 have lenA:∀ k,(A k).length<=(jJ w).length:=λk=>(sub k).length_le
 have:=qp (step:=λs:Int×List Sub=>kP b s.1 s.2) (λc=>c.bl=jJ w) (λs=>1<=s.1/\s.1<=10000/\s.2=A s.1) (λs=>(10000-s.1).toNat) ?_ (s:=(1,[])) ⟨by omega,by omega,?_⟩ (by omega)
 ·obtain ⟨c,hc,e⟩:=this;exact ⟨c.aJ,by rw [hc,←e]⟩
 ·rintro ⟨k,l⟩ ⟨k1,k2,k3⟩;simp only at k1 k2 k3;subst k3;have O7:=lenA k;unfold kP;rw [af (λ_=>⟨by omega,by omega⟩)];by_cases c:k<=9999/\((A k).length:Int)<(b.bl.length:Int) - (b.ended.length:Int)
  ·rw [zab (by simpa using c),Fy b k (by omega),zac,DT b k (by omega),gn,zac];have hA:A (k+1)=A k++(if k∈w.2.1 then [k] else []).filterMap (aB w.2.2.2.1):=by
    show (w.2.1.filter λz=>decide (z<k+1)).filterMap _=_;rw [filter_lt _ _ h.XA,List.filterMap_append]
   rcases yD b k with ⟨q1,q2⟩|⟨q1,q2,q3⟩
   ·rw [q1];simp only [show decide ((-1:Int)>=0)=false from rfl,zct,zaz,zbt];rw [af ⟨by omega,by omega⟩];refine .inr ⟨(k+1,A k),rfl,⟨by simp only;omega,by simp only;omega,?_⟩,by simp only;omega⟩;simp only;rw [hA,zaa (λm=>q2 ((h.mem k).1 m))];simp
   ·have d1:decide (kS b k>=0)=true:=by simpa using q1
    have hm:nth b.bl (kS b k).toNat∈b.bl:=oM (by omega);have hk:k∈sj b:=by rw [←q3];exact zcs hm
    rw [zab ((h.mem k).2 hk)] at hA;simp only [d1,zbu,zcn];by_cases Da:k∈b.ended
    ·simp only [Da,zfz,zci,zaz,zbt];rw [af ⟨by omega,by omega⟩];refine .inr ⟨(k+1,A k),rfl,⟨by simp only;omega,by simp only;omega,?_⟩,by simp only;omega⟩;simp only;rw [hA,zdy,h.Hq Da];simp
    ·simp only [Da,zey,zcj,zbu];rw [af ⟨q1,q2⟩,af (by simp only [zal];omega),af ⟨by omega,by omega⟩];refine .inr ⟨(k+1,A k++[nth b.bl (kS b k).toNat]),rfl,⟨by simp only;omega,by simp only;omega,?_⟩,by simp only;omega⟩;simp only;have hl:=h.look _ hm;rw [q3,zaa Da] at hl;rw [hA,zdy,hl];simp
  ·rw [zaa (by simpa using c)];obtain ⟨a,ha⟩:=W5 b (A k) (by omega) (by omega);rw [ha];refine .inl ⟨_,rfl,?_⟩;simp only;by_cases hk:k<=9999
   ·exact (sub k).eq_of_length_le (by omega)
   ·show (w.2.1.filter λz=>decide (z<k)).filterMap _=_;rw [zdn.2 λz hz=>by have:=h.XB z ((h.mem z).1 hz);simp;omega];rfl
 ·show []=(w.2.1.filter λz=>decide (z<1)).filterMap _;rw [zdl.2 λz hz=>by have:=h.XB z ((h.mem z).1 hz);simp;omega];rfl
end state
def FB (x:List UInt8) (L:List Sub):Option Sub:=L.find? λs=>decide (x∈s.numbers)
theorem Au (id:Int) (x:List UInt8):∀ (ns:List (List UInt8)) (o:List ((List UInt8)×Int)),aB (ns.foldl (λo n=>da o n id) o) x=if x∈ns then some id else aB o x
 | [],o=>by simp
 | a::ns,o=>by
  rw [List.foldl_cons,Au id x ns,fe];by_cases h:x∈ns
  ·rw [zab h,zab (zah _ h)]
  ·rw [zaa h];by_cases h2:x=a
   ·rw [zab (by simpa using h2),zab (by rw [h2];exact zaj ..)]
   ·rw [zaa (by simpa using h2),zaa (by simp [h,h2])]
theorem Lf (x:List UInt8):∀ (L:List Sub) (o:List ((List UInt8)×Int)),(∀ s s',s∈L->s'∈L->x∈s.numbers->x∈s'.numbers->s.id=s'.id)->aB (WV L o) x=match FB x L with|some s=>some s.id|none=>aB o x
 | [],o,_=>rfl
 | s::l,o,h=>by
  have ih:=Lf x l (s.numbers.foldl (λo n=>da o n s.id) o) λa b ha hb=>h a b (zah _ ha) (zah _ hb)
  unfold WV;rw [ih];unfold FB;rw [List.find?_cons];by_cases hx:x∈s.numbers
  ·rw [show decide (x∈s.numbers)=true from by simpa using hx];simp only;cases hf:l.find? λs=>decide (x∈s.numbers) with
   | none=>simp only [Au,hx,zbu]
   | some s' =>
    have h1:=List.mem_of_find?_eq_some hf;have h2:=List.find?_some hf;simp only;rw [h s s' (zaj ..) (zah _ h1) hx (by simpa using h2)]
  ·rw [show decide (x∈s.numbers)=false from by simpa using hx];simp only;cases hf:l.find? λs=>decide (x∈s.numbers) with
   | none=>simp only [Au,hx,zbt]
   | some s'=>rfl
theorem Lg:∀ (L:List Sub),(L.map (·.id)).Nodup->∀ s,s∈L->K8 s.id L=(s,true)
 | [],_,s,h=>by simp at h
 | a::l,hn,s,h=>by
  rw [zao,zby] at hn;unfold K8;rcases zaq.1 h with rfl|h
  ·rw [zab rfl]
  ·rw [zaa (λq=>hn.1 (by rw [q];exact zcs h))];exact Lg l hn.2 s h
section state
variable {n:Nat} {w:W7} {b:Bk}
theorem vO.own (h:vO n w b) (x:List UInt8):I9 (jJ w) x=match FB x (jJ w) with|some s=>(s,true)|none=>(uz,false):=by
 unfold I9;rw [Lf x _ _ λs s' hs tX=>h.num s s' x (h.BE hs).1 (h.BE tX).1];cases hf:FB x (jJ w) with
 | none=>simp [aB]
 | some s =>
  simp only;exact Lg _ h.Uh s (List.mem_of_find?_eq_some hf)
theorem RI (cR:List Event) (x:List UInt8) (t:Int) (hl:cR.length<=10000) (hu:Lu t cR b0=some b) (h:vO n w b) (hn:n<=10000):rQ cR x t=some (match FB x (jJ w) with|some s=>(s.id,true)|none=>(0,false)):=by
 unfold rQ;obtain ⟨a,ha⟩:=RH cR t hl hu h hn;rw [ha,zac];have hlen:=La h.wb;have WW:=Ho h.wb;refine bp (step:=λs:Int=>mO x ⟨a,jJ w⟩ s) (jJ w) (λs=>s) (λs r=>some (match FB x r with|some s=>(s.id,true)|none=>(0,false))) (λs r=>0<=s/\∀ z,z∈r->z.numbers.length<=10000) (by omega) ?_ ?_ (s:=0) rfl ⟨by omega,λz hz=>by have:=WW z hz;omega⟩
 ·rintro i ⟨h1,_⟩ h2;refine ⟨_,?_,rfl⟩;unfold mO;rw [zaa (by simp only [zak];omega)];rfl
 ·rintro i s r ⟨h1,h2⟩ h3 h4 h5 h6;have hs:=h2 s (zaj ..);unfold mO;rw [zab (by simpa using h4),af ⟨h3,h4⟩,h5,Jb _ _ (by omega),zac];by_cases hx:x∈s.numbers
  ·rw [zab (by simpa using hx),af ⟨h3,h4⟩];refine .inl ⟨_,rfl,?_⟩;unfold FB;rw [List.find?_cons,show decide (x∈s.numbers)=true from by simpa using hx]
  ·rw [zaa (by simpa using hx),af ⟨by omega,by omega⟩];refine .inr ⟨i+1,rfl,⟨by omega,λz hz=>h2 z (zah _ hz)⟩,rfl,?_⟩;unfold FB;rw [List.find?_cons,show decide (x∈s.numbers)=false from by simpa using hx]
theorem W6 (cR:List Event) (s:Sub) (t:Int) (hl:cR.length<=10000) (hu:Lu t cR b0=some b) (h:vO n w b) (hn:n<=10000) (hs:s∈jJ w):vC cR s.id t=some (s,true):=by
 unfold vC;have h1:=h.bb.bl;have h2:=h.bb.ended;obtain ⟨m,e⟩:=h.BE hs;rw [RG cR t b hl hu,zac,Fy b _ (by omega),zac,DT b _ (by omega),gn,zac];rcases yD b s.id with ⟨_,q⟩|⟨q1,q2,q3⟩
 ·exact absurd (zcs m) q
 ·rw [show decide (kS b s.id<0)=false from by simp;omega,show decide (s.id∈b.ended)=false from by simpa using e];simp only [zcj,zbu,zfs,zaz,zbt];rw [af ⟨q1,q2⟩,h.find (oM (by omega)) m q3]
theorem vO.W8 (h:vO n w b):FB [] (jJ w)=none:=by
 cases hf:FB [] (jJ w) with
 | none=>rfl
 | some s =>
  have h1:=List.mem_of_find?_eq_some hf;have h2:=List.find?_some hf;exact absurd (by simpa using h2) (h.ne s (h.BE h1).1)
theorem N3 (cR:List Event) (r:aa) (id:Int) (x:List UInt8) (hl:cR.length<=10000) (hu:Lu r.start cR b0=some b) (h:vO n w b) (hn:n<=10000) (hx:x=BD r) (e0:eb r=0) (p0:r.part=0):jc cR r id x=some (Ja (jJ w) r id):=by
 subst hx;unfold jc Ja;rw [RI cR _ _ hl hu h hn,zac,h.own,zaa (show ¬(eb r≠0) from λk=>k e0),zaa (show ¬(r.part≠0) from λk=>k p0)];cases hf:FB (BD r) (jJ w) with
 | none=>simp [Fx]
 | some s =>
  have hm:=List.mem_of_find?_eq_some hf;simp only [zci,zdc];by_cases hz:BD r=[]
  ·rw [hz,h.W8] at hf;cases hf
  ·rw [zaa (by simpa using hz),W6 cR s _ hl hu h hn hm,zac];simp only [Bool.true_eq_false,zbt];by_cases hc:s.bL=true/\r.bS=false
   ·rw [zab (by simp [hc]),zab hc];rfl
   ·rw [zaa (by simpa using hc),zaa hc]
theorem RJ (cR:List Event) (r:aa) (id:Int) (hl:cR.length<=10000) (hu:Lu r.start cR b0=some b) (h:vO n w b) (hn:n<=10000) (hs:Sm r):mP cR r id=some (Ja (jJ w) r id):=by
 unfold mP;rw [xZ r hs,zac];by_cases h1:eb r=0
 ·rw [zaa (by simpa using h1)];by_cases h2:r.part=0
  ·rw [zaa (by simpa using h2)];split
   ·rename_i hi;exact N3 cR r id _ hl hu h hn (by unfold BD;rw [zab hi]) h1 h2
   ·rename_i hi;exact N3 cR r id _ hl hu h hn (by unfold BD;rw [zaa hi]) h1 h2
  ·rw [zab (by simpa using h2)];unfold Ja;rw [zaa (show ¬(eb r≠0) from λk=>k h1),zab h2];rfl
 ·rw [zab (by simpa using h1)];unfold Ja;rw [zab h1];rfl
end state
theorem Tl (cR:List Event) (t:Int) (hl:cR.length<=40) (hv:VC b0 0 cR):∃ w b,K6 t cR w0=some w/\Lu t cR b0=some b/\vO cR.length w b:=by
 obtain ⟨w,b,h1,h2,h3⟩:=N1 t cR 0 w0 b0 0 inv0 (by omega) hv;rw [zbr] at h3;exact ⟨w,b,h1,h2,h3⟩
theorem ZG {σ:Type} {step:σ->Option (σ ⊕ Bool)} (n:Nat) (hn:n<=100000) (I:Nat->σ->Prop) (P:Nat->Prop) (Q:Prop)
  (h:∀ k s,k<n->I k s->(P k/\∃ s',step s=some (.inl s')/\I (k+1) s')∨(¬P k/\step s=some (.inr false)))
  (he:∀ s,I n s->∃ b,step s=some (.inr b)/\(b=true↔Q)) {s:σ} (hs:I 0 s):∃ b,loop step s=some b/\(b=true↔(∀ k,k<n->P k)/\Q):=by
 have key:∀ (m:Nat) (k:Nat) (s:σ),n-k<=m->k<=n->I k s->(∀ j,j<k->P j)->∀ f,m+1<=f->∃ b,iter step f s=some b/\(b=true↔(∀ k,k<n->P k)/\Q):=by
  intro m
  induction m with
  | zero =>
   intro k s hk hkn hI hP f hf;have:k=n:=by omega
   subst this;obtain ⟨b,h1,h2⟩:=he s hI;obtain ⟨f,rfl⟩:∃ g,f=g+1:=⟨f-1,by omega⟩;exact ⟨b,vM h1,h2.trans ⟨λq=>⟨hP,q⟩,λq=>q.2⟩⟩
  | succ m ih =>
   intro k s hk hkn hI hP f hf;obtain ⟨f,rfl⟩:∃ g,f=g+1:=⟨f-1,by omega⟩;by_cases e:k=n
   ·subst e;obtain ⟨b,h1,h2⟩:=he s hI;exact ⟨b,vM h1,h2.trans ⟨λq=>⟨hP,q⟩,λq=>q.2⟩⟩
   ·rcases h k s (by omega) hI with ⟨p,s',h1,h2⟩|⟨p,h1⟩
    ·obtain ⟨b,q1,q2⟩:=ih (k+1) s' (by omega) (by omega) h2 (λj hj=>by
      by_cases ej:j=k
      ·rw [ej];exact p
      ·exact hP j (by omega)) f (by omega)
     exact ⟨b,by rw [KS h1];exact q1,q2⟩
    ·exact ⟨false,vM h1,by simp;intro q;exact absurd (q k (by omega)) p⟩
 have:=key n 0 s (by omega) (by omega) hs (λj hj=>by omega) 18446744073709551616 (by omega);exact this
theorem scan {step:Int->Option (Int ⊕ Bool)} (n:Nat) (hn:n<=100000) (P:Nat->Prop) (Q:Prop)
  (h:∀ k:Nat,k<n->(P k/\step (k:Int)=some (.inl ((k:Int)+1)))∨(¬P k/\step (k:Int)=some (.inr false)))
  (he:∃ b,step (n:Int)=some (.inr b)/\(b=true↔Q)):∃ b,loop step 0=some b/\(b=true↔(∀ k,k<n->P k)/\Q):=by
 refine ZG n hn (λk s=>s=(k:Int)) P Q ?_ ?_ (s:=0) rfl
 ·rintro k s hk rfl;rcases h k hk with ⟨p,e⟩|⟨p,e⟩
  ·exact .inl ⟨p,_,e,by omega⟩
  ·exact .inr ⟨p,e⟩
 ·rintro s rfl;exact he
theorem yE {α:Type} [Inhabited α] {l:List α} {P:α->Prop}:(∀ k,k<l.length->P (nth l k))↔∀ x,x∈l->P x:=by
 constructor
 ·intro h x hx;obtain ⟨k,hk,e⟩:=List.getElem_of_mem hx;have:=h k hk
  rwa [nM hk,e] at this
 ·intro h k hk;exact h _ (oM hk)
theorem Lh {α:Type} [Inhabited α] {l:List α} {R:α->α->Prop}:(∀ k,k<l.length->∀ j,j<k->R (nth l j) (nth l k))↔l.Pairwise R:=by
 rw [List.pairwise_iff_getElem];constructor
 ·intro h i j hi hj M3;have:=h j hj i M3
  rwa [nM hi,nM hj] at this
 ·intro h k hk j hj;have:=h j k (by omega) hk hj
  rwa [nM hk,nM (by omega)]
def FC:List Range->Int
 | []=>0
 | r::l=>(r.iu-r.from_+1)+FC l
def Je:List Head->Int
 | []=>0
 | h::l=>h.count+Je l
theorem Jf:∀ {l:List Range},(∀ r,r∈l->rZ r)->0<=FC l/\FC l<=l.length*1000000000
 | [],_=>by simp [FC]
 | r::l,h=>by
  have h1:=h r (zaj ..);have h2:=Jf λx hx=>h x (zah _ hx)
  unfold rZ at h1;rw [FC,zag];omega
theorem N4:∀ {l:List Head},(∀ r,r∈l->Gv r)->0<=Je l/\Je l<=l.length*5000
 | [],_=>by simp [Je]
 | r::l,h=>by
  have h1:=h r (zaj ..);have h2:=N4 λx hx=>h x (zah _ hx)
  unfold Gv at h1;rw [Je,zag];omega
theorem RK (l:List Range) (h:∀ r,r∈l->rZ r) (hl:l.length<=10000):rH l=some (FC l):=by
 unfold rH;have:=bp (step:=λs:Int×Int=>mH l s.1 s.2) l (λs=>s.2) (λs t=>some (s.1+FC t)) (λs t=>(0<=s.1/\s.1+t.length*1000000000<=10000*1000000000)/\∀ r,r∈t->rZ r) (by omega) ?_ ?_ (s:=(0,0)) rfl ⟨by simp only;omega,h⟩
 ·rw [this];simp
 ·rintro ⟨n,i⟩ ⟨h1,_⟩ h2;simp only at h1 h2;refine ⟨n,?_,by simp [FC]⟩;unfold mH;rw [zaa (by simp only [zak];omega)]
 ·rintro ⟨n,i⟩ r t ⟨h1,h2⟩ h3 h4 h5 h6;simp only at h1 h3 h4 h5 h6;have hr:=h2 r (zaj ..);rw [zag] at h1;unfold rZ at hr;unfold mH;rw [zab (by simpa using h4),af ⟨h3,h4⟩,h5,af ⟨by omega,by omega⟩,af ⟨h3,h4⟩,af ⟨by omega,by omega⟩,af ⟨by omega,by omega⟩,af ⟨by omega,by omega⟩];refine .inr ⟨(n+r.iu-r.from_+1,i+1),rfl,⟨by simp only;omega,λx hx=>h2 x (zah _ hx)⟩,rfl,?_⟩
  simp only [FC];congr 1;omega
def wO (m:aj):bV:=⟨Je m.aH.aO,(m.usages.length:Int),((FC m.aH.seen-(m.usages.length:Int)) - (m.aS.length:Int)) - (m.aH.open_.length:Int),(m.bA.length:Int),(m.aS.length:Int),(m.aH.open_.length:Int)⟩
structure Bal (m:aj):Prop where
 seen:∀ r,r∈m.aH.seen->rZ r
 aO:∀ h,h∈m.aH.aO->Gv h
 l1:m.aH.seen.length<=10000
 l2:m.aH.aO.length<=10000
 l3:m.aH.open_.length<=10000
 l4:m.usages.length<=10000
 l5:m.aS.length<=10000
 l6:m.bA.length<=10000
theorem MM (m:aj) (h:Bal m):ou m=some (wO m):=by
 have b1:=Jf h.seen;have:=h.l1;have:=h.l2;have:=h.l3;have:=h.l4;have:=h.l5;unfold ou;have:=bp (step:=λs:Int×Int=>kD m s.1 s.2) m.aH.aO (λs=>s.1) (λs t=>some (⟨s.2+Je t,(m.usages.length:Int),((FC m.aH.seen-(m.usages.length:Int)) - (m.aS.length:Int)) - (m.aH.open_.length:Int),(m.bA.length:Int),(m.aS.length:Int),(m.aH.open_.length:Int)⟩:bV))
  (λs t=>(0<=s.2/\s.2+t.length*5000<=10000*5000)/\∀ r,r∈t->Gv r) (by omega) ?_ ?_ (s:=(0,0)) rfl ⟨by simp only;omega,h.aO⟩
 ·rw [this];simp [wO]
 ·rintro ⟨i,n⟩ ⟨h1,_⟩ h2;simp only at h1 h2;refine ⟨_,?_,rfl⟩;unfold kD;rw [zaa (by simp only [zak];omega)];unfold kC;rw [RK _ h.seen h.l1,zac,af ⟨by omega,by omega⟩,af ⟨by omega,by omega⟩,af ⟨by omega,by omega⟩];simp [Je]
 ·rintro ⟨i,n⟩ r t ⟨h1,h2⟩ h3 h4 h5 h6;simp only at h1 h3 h4 h5 h6;have hr:=h2 r (zaj ..);rw [zag] at h1;unfold Gv at hr;unfold kD;rw [zab (by simpa using h4),af ⟨h3,h4⟩,h5,af ⟨by omega,by omega⟩,af ⟨by omega,by omega⟩];refine .inr ⟨(i+1,n+r.count),rfl,⟨by simp only;omega,λx hx=>h2 x (zah _ hx)⟩,rfl,?_⟩
  simp only [Je];rw [Int.add_assoc]
theorem ZH {σ R:Type} {step:σ->Option (σ ⊕ R)} (n:Nat) (hn:n<=100000) (I:Nat->σ->Prop) (P:Nat->Prop) (E B:R->Prop)
  (h:∀ k s,k<n->I k s->(P k/\∃ s',step s=some (.inl s')/\I (k+1) s')∨(¬P k/\∃ r,step s=some (.inr r)/\B r))
  (he:∀ s,I n s->∃ r,step s=some (.inr r)/\E r) {s:σ} (hs:I 0 s):∃ r,loop step s=some r/\(((∀ k,k<n->P k)/\E r)∨(¬(∀ k,k<n->P k)/\B r)):=by
 have key:∀ (m:Nat) (k:Nat) (s:σ),n-k<=m->k<=n->I k s->(∀ j,j<k->P j)->∀ f,m+1<=f->∃ r,iter step f s=some r/\(((∀ k,k<n->P k)/\E r)∨(¬(∀ k,k<n->P k)/\B r)):=by
  intro m
  induction m with
  | zero =>
   intro k s hk hkn hI hP f hf;have:k=n:=by omega
   subst this;obtain ⟨b,h1,h2⟩:=he s hI;obtain ⟨f,rfl⟩:∃ g,f=g+1:=⟨f-1,by omega⟩;exact ⟨b,vM h1,.inl ⟨hP,h2⟩⟩
  | succ m ih =>
   intro k s hk hkn hI hP f hf;obtain ⟨f,rfl⟩:∃ g,f=g+1:=⟨f-1,by omega⟩;by_cases e:k=n
   ·subst e;obtain ⟨b,h1,h2⟩:=he s hI;exact ⟨b,vM h1,.inl ⟨hP,h2⟩⟩
   ·rcases h k s (by omega) hI with ⟨p,s',h1,h2⟩|⟨p,r,h1,h2⟩
    ·obtain ⟨b,q1,q2⟩:=ih (k+1) s' (by omega) (by omega) h2 (λj hj=>by
      by_cases ej:j=k
      ·rw [ej];exact p
      ·exact hP j (by omega)) f (by omega)
     exact ⟨b,by rw [KS h1];exact q1,q2⟩
    ·exact ⟨r,vM h1,.inr ⟨λq=>p (q k (by omega)),h2⟩⟩
 have:=key n 0 s (by omega) (by omega) hs (λj hj=>by omega) 18446744073709551616 (by omega);exact this
def Jg (u:aC):aa:=⟨u.source,u.aI,u.kind,u.a,u.b,u.start,u.cU,0,0,false,u.c9,u.bS⟩
def kW (m:aj):List aa:=m.usages.map Jg++m.aS++m.aH.open_
def Hr (m:aj) (k:Nat):Prop:=(nth m.usages k).id=(k:Int)+1/\(1<=(nth m.usages k).au/\(nth m.usages k).au<=9999)/\(1<=(nth m.usages k).sub/\(nth m.usages k).sub<=9999)
def C8 (b:bV):Prop:=0<=b.merged/\b.read=b.accepted+b.merged+b.rejected+b.bL+b.open_
structure MN (m:aj):Prop where
 aH:CA m.aH
 usg:∀ k,k<m.usages.length->Hr m k
 susp:∀ r,r∈m.aS->r.part=0
 rej:∀ x,x∈m.bA->x.err=15∨x.err=13
 valid:∀ r,r∈kW m->eb r=0
 seen:∀ r,r∈kW m->(hasB m.aH.seen r.source r.aI && FL r.source r.aI)=true
 uniq:(kW m).Pairwise NS
 bal:C8 (wO m)
structure MO (m:aj):Prop where
 aH:SmI m.aH
 l1:m.usages.length<=1000
 l2:m.aS.length<=1000
 l3:m.bA.length<=1000
 u:∀ u,u∈m.usages->Sm (Jg u)
 s:∀ r,r∈m.aS->Sm r
theorem MO.bal {m:aj} (h:MO m) (g:CA m.aH):Bal m:=⟨g.can.ok,λx hx=>Fk g.aO x hx,by have:=h.aH.seen;omega,by have:=h.aH.aO;omega,by have:=h.aH.opens;omega,by have:=h.l1;omega,by have:=h.l2;omega,by have:=h.l3;omega⟩
theorem MO.kW {m:aj} (h:MO m):∀ r,r∈kW m->Sm r:=λr hr=>by
 unfold Go.Proofs.YtimkfiaffohhkaaGreatDoor.kW at hr;rcases zbm.1 hr with hr|hr
 ·rcases zbm.1 hr with hr|hr
  ·obtain ⟨u,hu,rfl⟩:=zdj.1 hr;exact h.u u hu
  ·exact h.s r hr
 ·exact h.aH.sm r hr
theorem RL (m:aj):(kW m).length=m.usages.length+m.aS.length+m.aH.open_.length:=by simp [kW];omega
theorem Tm {m:aj} (h:Bal m):(0<=(wO m).read/\(wO m).read<=1000000000)/\(-100000<=(wO m).merged/\(wO m).merged<=10000000000000)/\(wO m).accepted=m.usages.length/\(wO m).rejected=m.bA.length/\(wO m).bL=m.aS.length/\(wO m).open_=m.aH.open_.length:=by
 have b1:=Jf h.seen;have b2:=N4 h.aO;have:=h.l1;have:=h.l2;have:=h.l3;have:=h.l4;have:=h.l5;have:=h.l6;unfold wO;simp only;refine ⟨⟨by omega,by omega⟩,⟨by omega,by omega⟩,by first|rfl|trivial,by first|rfl|trivial,by first|rfl|trivial,by first|rfl|trivial⟩
theorem RM {m:aj} (h:Bal m):∃ b,(some (wO m)).bind (λy6=>ck ((decide (y6.merged>=0))=true->(cL (y6.accepted+y6.merged))) (ck ((decide (y6.merged>=0))=true->(cL ((y6.accepted+y6.merged)+y6.rejected))) (ck ((decide (y6.merged>=0))=true->(cL (((y6.accepted+y6.merged)+y6.rejected)+y6.bL))) (ck ((decide (y6.merged>=0))=true->(cL ((((y6.accepted+y6.merged)+y6.rejected)+y6.bL)+y6.open_))) (some ((decide (y6.merged>=0)) && (y6.read==((((y6.accepted+y6.merged)+y6.rejected)+y6.bL)+y6.open_))))))))=some b/\(b=true↔C8 (wO m)):=by
 obtain ⟨h1,h2,h3,h4,h5,h6⟩:=Tm h;have:=h.l1;have:=h.l2;have:=h.l3;have:=h.l4;have:=h.l5;have:=h.l6;rw [zac,af (λ_=>⟨by omega,by omega⟩),af (λ_=>⟨by omega,by omega⟩),af (λ_=>⟨by omega,by omega⟩),af (λ_=>⟨by omega,by omega⟩)];refine ⟨_,rfl,?_⟩;unfold C8;simp
theorem Pg (m:aj) (h:MO m):ot m=some (kW m):=by
 have:=h.l1;have:=h.l2;have:=h.aH.opens;unfold ot;refine bp (step:=λs:List aa×Int=>kB m s.1 s.2) m.usages (λs=>s.2) (λs t=>some (s.1++t.map Jg++m.aS++m.aH.open_)) (λs t=>0<=s.2/\(s.1.length:Int)=s.2/\s.2<=1000) (by omega) ?_ ?_ (s:=([],0)) rfl ⟨by simp,by simp,by simp⟩
 ·rintro ⟨o,i⟩ ⟨h1,h2,h3⟩ h4;simp only at h1 h2 h3 h4;refine ⟨o++m.aS++m.aH.open_,?_,by simp⟩;unfold kB;rw [zaa (by simp only [zak];omega)];unfold kA;simp only;rw [af (by omega),af (by rw [zai];omega)];rfl
 ·rintro ⟨o,i⟩ u t ⟨h1,h2,h3⟩ h4 h5 h6 h7;simp only at h1 h2 h3 h4 h5 h6 h7;unfold kB;rw [zab (by simpa using h5),af ⟨h4,h5⟩,h6];refine .inr ⟨(o++[Jg u],i+1),?_,⟨by simp only;omega,by simp only [zai,zal];omega,by simp only;omega⟩,rfl,by simp⟩;unfold sK;rw [zac,af (by simp only [zal];omega),af ⟨by omega,by omega⟩];rfl
def Li (m:aj) (k:Nat):Prop:=eb (nth (kW m) k)=0/\(hasB m.aH.seen (nth (kW m) k).source (nth (kW m) k).aI && FL (nth (kW m) k).source (nth (kW m) k).aI)=true/\∀ j,j<k->NS (nth (kW m) j) (nth (kW m) k)
theorem ZI (l:List aa) (k:Nat) (hk:k<l.length) (hl:l.length<=10000):∃ r,loop (λs:Int=>mI l (k:Int) s) 0=some r/\(((∀ j,j<k->NS (nth l j) (nth l k))/\r=.inl ((k:Int)+1))∨(¬(∀ j,j<k->NS (nth l j) (nth l k))/\r=.inr false)):=by
 refine ZH k (by omega) (λj s=>s=(j:Int)) (λj=>NS (nth l j) (nth l k)) (λr:Int ⊕ Bool=>r=.inl ((k:Int)+1)) (λr:Int ⊕ Bool=>r=.inr false) ?_ ?_ rfl
 ·rintro j s hj rfl;unfold mI;have b1:(0:Int)<=(j:Int)/\(j:Int)<(l.length:Int):=by omega
  have b2:(0:Int)<=(k:Int)/\(k:Int)<(l.length:Int):=by omega
  rw [zab (by simpa using hj),af b1,af b2,af (λ_=>b1),af (λ_=>b2)];simp only [zco];by_cases hn:NS (nth l j) (nth l k)
  ·refine .inl ⟨hn,(j:Int)+1,?_,by omega⟩;rw [zaa (by unfold NS at hn;simpa using hn),af ⟨by omega,by omega⟩]
  ·refine .inr ⟨hn,.inr false,?_,rfl⟩;rw [zab (by unfold NS at hn;simpa using hn)]
 ·rintro s rfl;unfold mI;rw [zaa (by simp),af ⟨by omega,by omega⟩];exact ⟨_,rfl,rfl⟩
theorem Tn (m:aj) (h:MO m):∃ b,rJ m=some b/\(b=true↔MN m):=by
 unfold rJ;rw [Zu m.aH h.aH,zac];by_cases hg0:Xx m.aH=false
 ·rw [zab (by simpa using hg0)];exact ⟨_,rfl,by simp;exact λq=>by have:=(NJ _).2 q.aH;rw [hg0] at this;cases this⟩
 have hg:Xx m.aH=true:=by simpa using hg0
 rw [zaa (by simpa using hg)];have g:=(NJ _).1 hg;have hb:=h.bal g;have:=h.l1;have:=h.l2;have:=h.l3;have:=h.aH.opens;have:=h.aH.seen;have h4:∃ b,kE m=some b/\(b=true↔C8 (wO m)):=by
  unfold kE;rw [MM m hb];exact RM hb
 have UM:=RL m;have h3:∃ b,kF m=some b/\(b=true↔(∀ k,k<(kW m).length->Li m k)/\C8 (wO m)):=by
  unfold kF;rw [Pg m h,zac];refine scan (kW m).length (by omega) (Li m) _ ?_ ?_
  ·intro k hk;have b1:(0:Int)<=(k:Int)/\(k:Int)<((kW m).length:Int):=by omega
   unfold pO;rw [zab (by simpa using hk),af b1];simp only [zco];rw [xZ _ (h.kW _ (oM hk)),zac,af (λ_=>b1),af (λ_=>b1),Mv _ _ _ (by omega),gn,zac];by_cases he:eb (nth (kW m) k)=0
   ·rw [zab (c:=(!(eb (nth (kW m) k) != 0))=true) (by simp [he])];by_cases hh:(hasB m.aH.seen (nth (kW m) k).source (nth (kW m) k).aI && FL (nth (kW m) k).source (nth (kW m) k).aI)=true
    ·rw [zaa (by simp only [hh,he];simp)];obtain ⟨r,h5,⟨h6,rfl⟩|⟨h6,rfl⟩⟩:=ZI (kW m) k hk (by omega)
     ·exact .inl ⟨⟨he,hh,h6⟩,h5⟩
     ·exact .inr ⟨λq=>h6 q.2.2,h5⟩
    ·rw [zab (by simp only [zbv,zdq];right;exact zff.2 hh)];exact .inr ⟨λq=>hh q.2.1,rfl⟩
   ·rw [zab (c:=(_ || _)=true) (by simp [he])];exact .inr ⟨λq=>he q.1,rfl⟩
  ·obtain ⟨b,e1,e2⟩:=h4;refine ⟨b,?_,e2⟩;unfold pO;rw [zaa (by simp),e1];rfl
 have h2:∃ b,kH m=some b/\(b=true↔(∀ k,k<m.bA.length->((nth m.bA k).err=15∨(nth m.bA k).err=13))/\(∀ k,k<(kW m).length->Li m k)/\C8 (wO m)):=by
  unfold kH;refine scan m.bA.length (by omega) (λk=>(nth m.bA k).err=15∨(nth m.bA k).err=13) _ ?_ ?_
  ·intro k hk;have b1:(0:Int)<=(k:Int)/\(k:Int)<(m.bA.length:Int):=by omega
   unfold kG;rw [zab (by simpa using hk),af b1,af (λ_=>b1)];simp only [zco];by_cases he:(nth m.bA k).err=15∨(nth m.bA k).err=13
   ·rw [zaa (by simp;intro q;rcases he with he|he;exact absurd he q;exact he),af ⟨by omega,by omega⟩];exact .inl ⟨he,rfl⟩
   ·rw [zab (by simp;exact ⟨λq=>he (.inl q),λq=>he (.inr q)⟩)];exact .inr ⟨he,rfl⟩
  ·obtain ⟨b,e1,e2⟩:=h3;refine ⟨b,?_,e2⟩;unfold kG;rw [zaa (by simp),e1];rfl
 have h1:∃ b,kJ m=some b/\(b=true↔(∀ k,k<m.aS.length->(nth m.aS k).part=0)/\(∀ k,k<m.bA.length->((nth m.bA k).err=15∨(nth m.bA k).err=13))/\(∀ k,k<(kW m).length->Li m k)/\C8 (wO m)):=by
  unfold kJ;refine scan m.aS.length (by omega) (λk=>(nth m.aS k).part=0) _ ?_ ?_
  ·intro k hk;have b1:(0:Int)<=(k:Int)/\(k:Int)<(m.aS.length:Int):=by omega
   unfold kI;rw [zab (by simpa using hk),af b1];simp only [zco];by_cases he:(nth m.aS k).part=0
   ·rw [zaa (by simpa using he),af ⟨by omega,by omega⟩];exact .inl ⟨he,rfl⟩
   ·rw [zab (by simpa using he)];exact .inr ⟨he,rfl⟩
  ·obtain ⟨b,e1,e2⟩:=h2;refine ⟨b,?_,e2⟩;unfold kI;rw [zaa (by simp),e1];rfl
 have h0:∃ b,loop (λs=>iZ m s) 0=some b/\(b=true↔(∀ k,k<m.usages.length->Hr m k)/\(∀ k,k<m.aS.length->(nth m.aS k).part=0)/\(∀ k,k<m.bA.length->((nth m.bA k).err=15∨(nth m.bA k).err=13))/\(∀ k,k<(kW m).length->Li m k)/\C8 (wO m)):=by
  refine scan m.usages.length (by omega) (Hr m) _ ?_ ?_
  ·intro k hk;have b1:(0:Int)<=(k:Int)/\(k:Int)<(m.usages.length:Int):=by omega
   unfold iZ;rw [zab (by simpa using hk),af b1,af ⟨by omega,by omega⟩];simp only [zco];by_cases he:Hr m k
   ·rw [zaa (by unfold Hr at he;simp;omega),af ⟨by omega,by omega⟩];exact .inl ⟨he,rfl⟩
   ·rw [zab (by unfold Hr at he;simp;omega)];exact .inr ⟨he,rfl⟩
  ·obtain ⟨b,e1,e2⟩:=h1;refine ⟨b,?_,e2⟩;unfold iZ;rw [zaa (by simp),e1];rfl
 obtain ⟨b,e1,e2⟩:=h0;refine ⟨b,e1,e2.trans ?_⟩;rw [yE (P:=λr:aa=>r.part=0),yE (P:=λx:ag=>x.err=15∨x.err=13)];constructor
 ·rintro ⟨q1,q2,q3,q4,q5⟩;exact ⟨g,q1,q2,q3,yE.1 λk hk=>(q4 k hk).1,yE (P:=λr:aa=>(hasB m.aH.seen r.source r.aI && FL r.source r.aI)=true) |>.1 λk hk=>(q4 k hk).2.1,Lh.1 λk hk=>(q4 k hk).2.2,q5⟩
 ·rintro ⟨_,q1,q2,q3,q4,q5,q6,q7⟩;exact ⟨q1,q2,q3,λk hk=>⟨yE.2 q4 k hk,yE (P:=λr:aa=>(hasB m.aH.seen r.source r.aI && FL r.source r.aI)=true) |>.2 q5 k hk,Lh.2 q6 k hk⟩,q7⟩
theorem To:rD=some true:=by kernel_rfl
theorem Lj (l:List aa):∃ b,qx l=some b/\(b=true->l.length<=30/\∀ r,r∈l->Sm r):=by
 unfold qx;obtain ⟨b,h1,h2⟩:=qp (step:=λi:Int=>nk l i) (λb=>b=true->l.length<=30/\∀ r,r∈l->Sm r) (λi:Int=>0<=i/\i<=31/\i<=(l.length:Int)/\∀ r,r∈l.take i.toNat->Sm r) (λi=>(31-i).toNat) (λi hI=>by
  obtain ⟨h0,h1,h2,h3⟩:=hI;show (∃ r,nk l i=_/\_)∨∃ s',nk l i=_/\_;unfold nk;by_cases h:i<(l.length:Int)/\i<31
  ·rw [zab (by simp [h]),af (by omega),af (by omega)];by_cases hs:Sm (nth l i.toNat)
   ·have tX:=hs;unfold Sm at tX;rw [zaa (by simp;omega),af (by omega)];refine .inr ⟨i+1,rfl,⟨by omega,by omega,by omega,?_⟩,by omega⟩;rw [show (i+1).toNat=i.toNat+1 from by omega,pj (by omega)];intro r hr;rcases zbm.1 hr with hr|hr
    ·exact h3 r hr
    ·simp at hr;subst hr;exact hs
   ·have tX:=hs;unfold Sm at tX;rw [zab (by simp;omega)];exact .inl ⟨_,rfl,by simp⟩
  ·rw [zaa (by simp;omega)];unfold pq;refine .inl ⟨_,rfl,λhb=>?_⟩;simp at hb;have:i=l.length:=by omega
   refine ⟨by omega,λr hr=>h3 r ?_⟩;rw [zbw (by omega)];exact hr) (s:=0) ⟨by omega,by omega,by omega,by simp⟩ (by omega)
 exact ⟨b,h1,h2⟩
structure yF (m:aj):Prop where
 sm:MO m
 u:m.usages.length<=30
 s:m.aS.length<=30
 o:m.aH.open_.length<=30
 r:m.bA.length<=30
 e:m.aH.seen.length<=30
 h:m.aH.aO.length<=30
theorem Ph (m:aj):∃ b,iP m=some b/\(b=true->(∀ u,u∈m.usages->Sm (Jg u))->yF m):=by
 unfold iP;obtain ⟨b1,h1,h2⟩:=Lj m.aS;obtain ⟨b2,h3,h4⟩:=Lj m.aH.open_;rw [h1,h3,gn,zac,gn,zac];refine ⟨_,rfl,λhb hu=>?_⟩;simp only [zas,zak] at hb;obtain ⟨⟨⟨⟨⟨q1,q2⟩,q3⟩,q4⟩,q5⟩,q6⟩:=hb;rw [zab (by simpa using q1)] at q2;rw [zab (by rw [zab (by simpa using q1)];simp [q2];omega)] at q3;obtain ⟨s1,s2⟩:=h2 q2;obtain ⟨s3,s4⟩:=h4 q3;exact ⟨⟨⟨by omega,by omega,by omega,s4⟩,by omega,by omega,by omega,hu,s2⟩,by omega,s1,s3,by omega,by omega,by omega⟩
theorem Tp (m:aj):∃ b,rz m=some b/\(b=true->yF m):=by
 unfold rz;obtain ⟨b,h1,h2⟩:=qp (step:=λi:Int=>ki m i) (λb=>b=true->yF m) (λi:Int=>0<=i/\i<=31/\i<=(m.usages.length:Int)/\∀ u,u∈m.usages.take i.toNat->Sm (Jg u)) (λi=>(31-i).toNat) (λi hI=>by
  obtain ⟨h0,h1,h2,h3⟩:=hI;show (∃ r,ki m i=_/\_)∨∃ s',ki m i=_/\_;unfold ki;by_cases h:i<(m.usages.length:Int)/\i<31
  ·rw [zab (by simp [h]),af (by omega),af (by omega)];by_cases hs:Sm (Jg (nth m.usages i.toNat))
   ·have tX:=hs;unfold Sm Jg at tX;simp only at tX;rw [zaa (by simp;omega),af (by omega)];refine .inr ⟨i+1,rfl,⟨by omega,by omega,by omega,?_⟩,by omega⟩;rw [show (i+1).toNat=i.toNat+1 from by omega,pj (by omega)];intro r hr;rcases zbm.1 hr with hr|hr
    ·exact h3 r hr
    ·simp at hr;subst hr;exact hs
   ·have tX:=hs;unfold Sm Jg at tX;simp only at tX;rw [zab (by simp;omega)];exact .inl ⟨_,rfl,by simp⟩
  ·rw [zaa (by simp;omega)];obtain ⟨b,e1,e2⟩:=Ph m;rw [e1];refine .inl ⟨b,rfl,λhb=>?_⟩;by_cases hi:i=m.usages.length
   ·refine e2 hb λu hu=>h3 u ?_
    rw [zbw (by omega)];exact hu
   ·exfalso;unfold iP at e1;obtain ⟨b1,h1,_⟩:=Lj m.aS;obtain ⟨b2,h3,_⟩:=Lj m.aH.open_;rw [h1,h3,gn,zac,gn,zac] at e1;rw [hb] at e1;simp at e1;omega) (s:=0) ⟨by omega,by omega,by omega,by simp⟩ (by omega)
 exact ⟨b,h1,h2⟩
def ky (r:aa):Int×Int:=(r.source,r.aI)
def sS {α:Type} (a b:List α):Prop:=∃ z,(a++z).Perm b
theorem sS.refl {α:Type} (a:List α):sS a a:=⟨[],by simp⟩
theorem sS.of {α:Type} {a b:List α} (h:a.Perm b):sS a b:=⟨[],by simpa using h⟩
theorem sS.trans {α:Type} {a b c:List α}:sS a b->sS b c->sS a c:=λ⟨z,h⟩ ⟨y,k⟩=>⟨z++y,by
 rw [←zat];exact (h.append_right y).trans k⟩
theorem sS.append {α:Type} {a b c d:List α}:sS a b->sS c d->sS (a++c) (b++d):=λ⟨z,h⟩ ⟨y,k⟩=>⟨z++y,by
 refine List.Perm.trans ?_ (h.append k);rw [zat,zat];refine List.Perm.append_left a ?_;rw [←zat,←zat];exact List.perm_append_comm.append_right y⟩
theorem sS.nodup {α:Type} {a b:List α}:sS a b->b.Nodup->a.Nodup:=λ⟨z,h⟩ k=>(zdm.1 (h.nodup_iff.2 k)).1
theorem sS.mem {α:Type} {a b:List α} {x:α}:sS a b->x∈a->x∈b:=λ⟨z,h⟩ k=>h.mem_iff.1 (zfu _ k)
def XC (w:aa):Prop:=eb w=0/\w.part=0
theorem RN {l:List aa} {w:aa} (h:tQ l=some w):XC w/\∃ q t,l=q::t/\ky w=ky q:=by
 cases l with
 | nil=>simp [tQ] at h
 | cons q t =>
  rw [show tQ (q::t)=(if ((q::t).all λp=>decide (p.part≠0/\eb p=0/\Comm p q))=true/\eb (IQ q (Ao (q::t)))=0 then some (IQ q (Ao (q::t))) else none) from rfl] at h;split at h
  ·rename_i hc;cases h;exact ⟨⟨hc.2,rfl⟩,q,t,rfl,rfl⟩
  ·cases h
theorem RO {l:List aa} {w:aa} (h:mX l=some w):XC w/\∃ q t,l=q::t/\ky w=ky q:=by
 unfold mX at h;split at h
 ·exact RN h
 ·cases h
theorem Hs (x:aa):∀ (m:Nat) (now:List aa),(∀ w,w∈(fC m now x).1->XC w)/\sS (((fC m now x).1++(fC m now x).2).map ky) (now.map ky)
 | 0,now=>⟨λw h=>by simp [fC] at h,.refl _⟩
 | m+1,now=>by
  unfold fC;cases hc:mX (pd true x 1 now).1 with
  | none=>exact ⟨λw h=>by simp at h,.refl _⟩
  | some w =>
   obtain ⟨EW,ih2⟩:=Hs x m (pd true x 1 now).2;obtain ⟨hw,q,t,e1,e2⟩:=RO hc;refine ⟨λy hy=>?_,?_⟩
   ·rcases zaq.1 hy with rfl|hy
    ·exact hw
    ·exact EW y hy
   ·have hp:=(xY true x 1 now).map ky;rw [zdr] at hp;refine sS.trans ?_ (.of hp);simp only [List.cons_append,zao];have:sS [ky w] ((pd true x 1 now).1.map ky):=by rw [e1,zao,e2];exact ⟨t.map ky,.refl _⟩
    exact this.append ih2
theorem Pj (now:List aa) (r:aa) (hr:eb r=0):(∀ w,w∈(kR now r).1->XC w)/\sS (((kR now r).1++(kR now r).2).map ky) ((r::now).map ky):=by
 unfold kR;split
 ·rename_i h0;exact ⟨λw h=>by rw [zca.1 h];exact ⟨hr,h0⟩,.refl _⟩
 ·obtain ⟨h1,h2⟩:=Hs r (now.length+2) (oE now r);exact ⟨h1,h2.trans (.of ((yA now r).map ky))⟩
theorem Ht:∀ (l now:List aa),(∀ r,r∈l->eb r=0)->(∀ w,w∈(jm now l).1->XC w)/\sS (((jm now l).1++(jm now l).2).map ky) ((now++l).map ky)
 | [],now,_=>⟨λw h=>by simp [jm] at h,by simpa [jm] using sS.refl _⟩
 | r::l,now,h=>by
  obtain ⟨a1,a2⟩:=Pj now r (h r (zaj ..));obtain ⟨b1,b2⟩:=Ht l (kR now r).2 λz hz=>h z (zah _ hz)
  unfold jm;refine ⟨λw hw=>?_,?_⟩
  ·rcases zbm.1 hw with hw|hw
   ·exact a1 w hw
   ·exact b1 w hw
  ·simp only;rw [zat,zdr];refine ((sS.refl ((kR now r).1.map ky)).append b2).trans ?_;rw [zdr,←zat,←zdr];refine (a2.append (sS.refl (l.map ky))).trans (.of ?_);rw [←zdr];refine List.Perm.map ky ?_;rw [List.cons_append];exact List.perm_middle.symm
def uF (cR:List Event) (r:aa) (id:Int):aC×Int:=Ja (jJ ((K6 r.start cR w0).getD w0)) r id
theorem W9 (cR:List Event) (r:aa) (id:Int) (hl:cR.length<=5000) (hs:Sm r):fQ cR r id=some (uF cR r id):=by
 obtain ⟨w,h1,h2⟩:=RB cR r id hl hs;unfold uF;rw [h1];exact h2
theorem Ui (cR:List Event) (r:aa) (id:Int) (hl:cR.length<=40) (hv:VC b0 0 cR) (hs:Sm r):mP cR r id=some (uF cR r id):=by
 obtain ⟨w,b,q1,q2,q3⟩:=Tl cR r.start hl hv;unfold uF;rw [q1];exact RJ cR r id (by omega) q2 q3 (by omega) hs
def zG (cR:List Event):List aa->List aC->List aa->List aC×List aa
 | [],us,ws=>(us,ws)
 | r::l,us,ws=>if (uF cR r ((us.length:Int)+1)).2=0 then zG cR l (us++[(uF cR r ((us.length:Int)+1)).1]) ws else zG cR l us (ws++[r])
theorem p_pl (cR:List Event) (hl:cR.length<=5000) (l:List aa) (us:List aC) (ws:List aa) (hs:∀ r,r∈l->Sm r) (h1:l.length<=10000) (h2:us.length<=10000) (h3:ws.length<=10000) (a:List Range) (b:List aa) (c:List Head) (d:List ag) :
  fA l a b c cR us ws d=some (zG cR l us ws)/\eE l a b c d cR us ws=some (zG cR l us ws)/\mT l a b c d cR us ws=some (zG cR l us ws):=by
 refine ⟨?_,?_,?_⟩
 ·unfold fA;refine bp (step:=λs:List aC×List aa×Int=>c8 l cR s.1 s.2.1 s.2.2) l (λs=>s.2.2) (λs t=>some (zG cR t s.1 s.2.1)) (λs t=>(s.1.length+t.length<=20000/\s.2.1.length+t.length<=20000)/\∀ r,r∈t->Sm r) (by omega) ?_ ?_ (s:=(us,ws,0)) rfl ⟨⟨by simp only;omega,by simp only;omega⟩,hs⟩
  ·rintro ⟨u,w,i⟩ _ h4;simp only at h4;refine ⟨_,?_,rfl⟩;unfold c8;rw [zaa (by simp only [zak];omega)];rfl
  ·rintro ⟨u,w,i⟩ r t ⟨⟨h4,h5⟩,h6⟩ h7 h8 h9 KA;simp only at h4 h5 h7 h8 h9 KA;rw [zag] at h4 h5;unfold c8;simp only;rw [zab (by simpa using h8),af ⟨h7,h8⟩,af ⟨by omega,by omega⟩,h9,W9 cR r _ hl (h6 r (zaj ..)),zac];by_cases he:(uF cR r ((u.length:Int)+1)).2=0
   ·rw [zab (by simpa using he),af (by simp only [zal];omega),af ⟨by omega,by omega⟩];refine .inr ⟨(u++[(uF cR r ((u.length:Int)+1)).1],w,i+1),rfl,⟨⟨by simp only [zai,zal];omega,by simp only;omega⟩,λz hz=>h6 z (zah _ hz)⟩,rfl,?_⟩;simp only;rw [zG,zab he]
   ·rw [zaa (by simpa using he),af (by simp only [zal];omega),af ⟨by omega,by omega⟩];refine .inr ⟨(u,w++[r],i+1),rfl,⟨⟨by simp only;omega,by simp only [zai,zal];omega⟩,λz hz=>h6 z (zah _ hz)⟩,rfl,?_⟩;simp only;rw [zG,zaa he]
 ·unfold eE;refine bp (step:=λs:List aC×Int×List aa=>cO l cR s.1 s.2.1 s.2.2) l (λs=>s.2.1) (λs t=>some (zG cR t s.1 s.2.2)) (λs t=>(s.1.length+t.length<=20000/\s.2.2.length+t.length<=20000)/\∀ r,r∈t->Sm r) (by omega) ?_ ?_ (s:=(us,0,ws)) rfl ⟨⟨by simp only;omega,by simp only;omega⟩,hs⟩
  ·rintro ⟨u,i,w⟩ _ h4;simp only at h4;refine ⟨_,?_,rfl⟩;unfold cO;rw [zaa (by simp only [zak];omega)];rfl
  ·rintro ⟨u,i,w⟩ r t ⟨⟨h4,h5⟩,h6⟩ h7 h8 h9 KA;simp only at h4 h5 h7 h8 h9 KA;rw [zag] at h4 h5;unfold cO;simp only;rw [zab (by simpa using h8),af ⟨h7,h8⟩,af ⟨by omega,by omega⟩,h9,W9 cR r _ hl (h6 r (zaj ..)),zac];by_cases he:(uF cR r ((u.length:Int)+1)).2=0
   ·rw [zab (by simpa using he),af (by simp only [zal];omega),af ⟨by omega,by omega⟩];refine .inr ⟨(u++[(uF cR r ((u.length:Int)+1)).1],i+1,w),rfl,⟨⟨by simp only [zai,zal];omega,by simp only;omega⟩,λz hz=>h6 z (zah _ hz)⟩,rfl,?_⟩;simp only;rw [zG,zab he]
   ·rw [zaa (by simpa using he),af (by simp only [zal];omega),af ⟨by omega,by omega⟩];refine .inr ⟨(u,i+1,w++[r]),rfl,⟨⟨by simp only;omega,by simp only [zai,zal];omega⟩,λz hz=>h6 z (zah _ hz)⟩,rfl,?_⟩;simp only;rw [zG,zaa he]
 ·unfold mT;refine bp (step:=λs:List aC×List aa×Int=>eS l cR s.1 s.2.1 s.2.2) l (λs=>s.2.2) (λs t=>some (zG cR t s.1 s.2.1)) (λs t=>(s.1.length+t.length<=20000/\s.2.1.length+t.length<=20000)/\∀ r,r∈t->Sm r) (by omega) ?_ ?_ (s:=(us,ws,0)) rfl ⟨⟨by simp only;omega,by simp only;omega⟩,hs⟩
  ·rintro ⟨u,w,i⟩ _ h4;simp only at h4;refine ⟨_,?_,rfl⟩;unfold eS;rw [zaa (by simp only [zak];omega)];rfl
  ·rintro ⟨u,w,i⟩ r t ⟨⟨h4,h5⟩,h6⟩ h7 h8 h9 KA;simp only at h4 h5 h7 h8 h9 KA;rw [zag] at h4 h5;unfold eS;simp only;rw [zab (by simpa using h8),af ⟨h7,h8⟩,af ⟨by omega,by omega⟩,h9,W9 cR r _ hl (h6 r (zaj ..)),zac];by_cases he:(uF cR r ((u.length:Int)+1)).2=0
   ·rw [zab (by simpa using he),af (by simp only [zal];omega),af ⟨by omega,by omega⟩];refine .inr ⟨(u++[(uF cR r ((u.length:Int)+1)).1],w,i+1),rfl,⟨⟨by simp only [zai,zal];omega,by simp only;omega⟩,λz hz=>h6 z (zah _ hz)⟩,rfl,?_⟩;simp only;rw [zG,zab he]
   ·rw [zaa (by simpa using he),af (by simp only [zal];omega),af ⟨by omega,by omega⟩];refine .inr ⟨(u,w++[r],i+1),rfl,⟨⟨by simp only;omega,by simp only [zai,zal];omega⟩,λz hz=>h6 z (zah _ hz)⟩,rfl,?_⟩;simp only;rw [zG,zaa he]
theorem Jh (cR:List Event):∀ (l:List aa) (us:List aC) (ws:List aa),(zG cR l us ws).1.length+(zG cR l us ws).2.length=us.length+ws.length+l.length
 | [],us,ws=>by simp [zG]
 | r::l,us,ws=>by
  unfold zG;split
  ·rw [Jh cR l];simp;omega
  ·rw [Jh cR l];simp;omega
theorem ZJ (cR:List Event) (hl:cR.length<=40) (hv:VC b0 0 cR) (m:aj) (l:List aa) (hs:∀ r,r∈l->Sm r) (h1:l.length<=10000) (h2:m.usages.length<=10000) (h3:m.aS.length<=10000) (h4:m.bA.length<=10000) :
  C0 cR m l=some ⟨m.aH,(zG cR l m.usages m.aS).1,(zG cR l m.usages m.aS).2,m.bA⟩/\rR cR m l=some (m.aH.seen,m.aH.open_,m.aH.aO,(zG cR l m.usages m.aS).1,(zG cR l m.usages m.aS).2,m.bA):=by
 refine ⟨?_,?_⟩
 ·unfold C0;simp only [zbx,zay,zbr];rw [af (by omega),af (by omega)];refine bp (step:=λs:List aC×List aa×Int=>pZ cR m l s.1 s.2.1 s.2.2) l (λs=>s.2.2) (λs t=>some (⟨m.aH,(zG cR t s.1 s.2.1).1,(zG cR t s.1 s.2.1).2,m.bA⟩:aj)) (λs t=>(s.1.length+t.length<=20000/\s.2.1.length+t.length<=20000)/\∀ r,r∈t->Sm r) (by omega) ?_ ?_ (s:=(m.usages,m.aS,0)) rfl ⟨⟨by simp only;omega,by simp only;omega⟩,hs⟩
  ·rintro ⟨u,w,i⟩ _ h4;simp only at h4;refine ⟨_,?_,rfl⟩;unfold pZ xL;rw [zaa (by simp only [zak];omega),af (by omega)];rfl
  ·rintro ⟨u,w,i⟩ r t ⟨⟨h4,h5⟩,h6⟩ h7 h8 h9 KA;simp only at h4 h5 h7 h8 h9 KA;rw [zag] at h4 h5;unfold pZ;simp only;rw [zab (by simpa using h8),af ⟨h7,h8⟩,af ⟨by omega,by omega⟩,h9,Ui cR r _ hl hv (h6 r (zaj ..)),zac];by_cases he:(uF cR r ((u.length:Int)+1)).2=0
   ·rw [zab (by simpa using he),af (by simp only [zal];omega),af ⟨by omega,by omega⟩];refine .inr ⟨(u++[(uF cR r ((u.length:Int)+1)).1],w,i+1),rfl,⟨⟨by simp only [zai,zal];omega,by simp only;omega⟩,λz hz=>h6 z (zah _ hz)⟩,rfl,?_⟩;simp only;rw [zG,zab he]
   ·rw [zaa (by simpa using he),af ⟨h7,h8⟩,af (by simp only [zal];omega),af ⟨by omega,by omega⟩];refine .inr ⟨(u,w++[r],i+1),rfl,⟨⟨by simp only;omega,by simp only [zai,zal];omega⟩,λz hz=>h6 z (zah _ hz)⟩,rfl,?_⟩;simp only;rw [zG,zaa he]
 ·unfold rR;simp only [zbx,zay,zbr];rw [af (by omega),af (by omega)];refine bp (step:=λs:List aC×List aa×Int=>mS cR m l s.1 s.2.1 s.2.2) l (λs=>s.2.2) (λs t=>some (m.aH.seen,m.aH.open_,m.aH.aO,(zG cR t s.1 s.2.1).1,(zG cR t s.1 s.2.1).2,m.bA)) (λs t=>(s.1.length+t.length<=20000/\s.2.1.length+t.length<=20000)/\∀ r,r∈t->Sm r) (by omega) ?_ ?_ (s:=(m.usages,m.aS,0)) rfl ⟨⟨by simp only;omega,by simp only;omega⟩,hs⟩
  ·rintro ⟨u,w,i⟩ _ h4;simp only at h4;refine ⟨_,?_,rfl⟩;unfold mS mR;rw [zaa (by simp only [zak];omega),af (by simp only [zay];omega)];rfl
  ·rintro ⟨u,w,i⟩ r t ⟨⟨h4,h5⟩,h6⟩ h7 h8 h9 KA;simp only at h4 h5 h7 h8 h9 KA;rw [zag] at h4 h5;unfold mS;simp only;rw [zab (by simpa using h8),af ⟨h7,h8⟩,af ⟨by omega,by omega⟩,h9,Ui cR r _ hl hv (h6 r (zaj ..)),zac];by_cases he:(uF cR r ((u.length:Int)+1)).2=0
   ·rw [zab (by simpa using he),af (by simp only [zal];omega),af ⟨by omega,by omega⟩];refine .inr ⟨(u++[(uF cR r ((u.length:Int)+1)).1],w,i+1),rfl,⟨⟨by simp only [zai,zal];omega,by simp only;omega⟩,λz hz=>h6 z (zah _ hz)⟩,rfl,?_⟩;simp only;rw [zG,zab he]
   ·rw [zaa (by simpa using he),af ⟨h7,h8⟩,af (by simp only [zal];omega),af ⟨by omega,by omega⟩];refine .inr ⟨(u,w++[r],i+1),rfl,⟨⟨by simp only;omega,by simp only [zai,zal];omega⟩,λz hz=>h6 z (zah _ hz)⟩,rfl,?_⟩;simp only;rw [zG,zaa he]
theorem N5 (v:aF) (b:Batch) (w:bX) (h:R8 v b):∀ r,r∈(sQ v b w).2.1->XC r:=λr hr=>by
 unfold sQ at hr;split at hr
 ·rename_i hc;split at hr
  ·refine (Ht _ _ λx hx=>(I1 hc).2.2.2.2 x (MG hx)).1 r hr
  ·simp at hr
 ·simp at hr
structure Xa (m:aj):Prop where
 I5:CA m.aH
 seen:m.aH.seen.length<=600
 aO:m.aH.aO.length<=600
 opens:m.aH.open_.length<=600
 l1:m.usages.length<=3000
 l2:m.aS.length<=3000
 l3:m.bA.length<=3000
 s:∀ r,r∈m.aS->Sm r
theorem Xa.smA {m:aj} (h:Xa m) {b:Batch} (h1:b.records.length<=100) (h2:∀ r,r∈b.records->Sm r):R8 m.aH b:=⟨h.I5,h.seen,h.aO,h.opens,h1,h2⟩
def noM:aj:=⟨(⟨([]:List Range),([]:List aa),([]:List Head)⟩:aF),([]:List aC),([]:List aa),([]:List ag)⟩
def FD (cR:List Event) (m:aj) (b:Batch) (w:bX):aj×Int :=
 if (sQ m.aH b w).2.2.2=0 then (⟨(sQ m.aH b w).1,(zG cR (sQ m.aH b w).2.1 m.usages m.aS).1,(zG cR (sQ m.aH b w).2.1 m.usages m.aS).2,m.bA++(sQ m.aH b w).2.2.1⟩,0) else (noM,(sQ m.aH b w).2.2.2)
theorem Xb (cR:List Event) (m:aj) (h:Xa m):kv cR m=some (m.aH.seen,m.aH.open_,m.aH.aO,m.usages,m.bA,cR,m.aS)/\iq cR m=some (m.aH.seen,m.aH.open_,m.aH.aO,m.usages,m.bA,cR,m.aS):=by
 have h1:=h.seen;have h2:=h.aO;have h3:=h.opens;have h4:=h.l1;have h5:=h.l3;unfold kv iq iy eU ml sH oc;rw [af (by omega),af (by omega),af (by omega),af (by omega),af (by omega)];exact ⟨rfl,rfl⟩
theorem Xc (cR:List Event) (hl:cR.length<=5000) (m:aj) (b:Batch) (w:bX) (h:Xa m) (h1:b.records.length<=100) (h2:∀ r,r∈b.records->Sm r):gw cR m b w=some (FD cR m b w):=by
 have hA:=h.smA h1 h2;have ha:=Ft m.aH b w hA;have hw:=N5 m.aH b w hA;have k1:=h.l1;have k2:=h.l2;have k3:=h.l3;unfold gw FD;rw [Ru _ _ _ hA,zac];by_cases he:(sQ m.aH b w).2.2.2=0
 ·rw [zaa (by simpa using he),zab he,(Xb cR m h).1,zac];unfold eU;simp only;rw [af (by omega),zac,af (by omega),(p_pl cR hl _ _ _ (λr hr=>IW (hw r hr).1) (by omega) (by omega) (by omega) _ _ _ _).1,zac]
 ·rw [zab (by simpa using he),zaa he];rfl
section doc
variable (cR:List Event) (hl:cR.length<=40) (hv:VC b0 0 cR)
include hl hv
theorem Tq (m:aj) (b:Batch) (w:bX) (h:Xa m) (h1:b.records.length<=100) (h2:∀ r,r∈b.records->Sm r):tA cR m b w=some (FD cR m b w):=by
 have hA:=h.smA h1 h2;have ha:=Ft m.aH b w hA;have hw:=N5 m.aH b w hA;have k1:=h.l1;have k2:=h.l2;have k3:=h.l3;unfold tA FD;rw [O9 _ _ _ hA,zac];by_cases he:(sQ m.aH b w).2.2.2=0
 ·rw [zaa (by simpa using he),zab he,(ZJ cR hl hv m _ (λr hr=>IW (hw r hr).1) (by omega) (by omega) (by omega) (by omega)).2,zac];simp only;rw [af (by omega)]
 ·rw [zab (by simpa using he),zaa he];rfl
end doc
theorem RP (a:List aC) (hl:a.length<=10000):tD a a=some true:=by
 unfold tD;rw [zaa (by simp),tO a (λ_=>true) true true (by omega) (λi h0 h1=>?_) (λi hi=>?_)]
 ·simp
 ·unfold rk;rw [zab (by simpa using h1),af (by omega),af (by omega),zaa (by rw [RC];simp),af (by omega)];rfl
 ·unfold rk;rw [zaa (by simp;omega)]
theorem DA (a:List ag) (hl:a.length<=10000):jG a a=some true:=by
 unfold jG;rw [zaa (by simp),tO a (λ_=>true) true true (by omega) (λi h0 h1=>?_) (λi hi=>?_)]
 ·simp
 ·unfold jF;rw [zab (by simpa using h1),af (by omega),af (by omega),zaa (by rw [ag.wK];simp),af (by omega)];rfl
 ·unfold jF;rw [zaa (by simp;omega)]
theorem Lk (m:aj) (h1:m.aH.seen.length<=10000) (h2:m.aH.open_.length<=10000) (h3:m.aH.aO.length<=10000) (h4:m.usages.length<=10000) (h5:m.aS.length<=10000) (h6:m.bA.length<=10000):qM m m=some true:=by
 unfold qM;rw [Rh _ h1 h2 h3,RP _ h4,KR _ h5,DA _ h6];rfl
theorem Xd (m:aj):∃ b,kN m=some b/\(b=true->yF m/\MN m):=by
 unfold kN;obtain ⟨c,h1,h2⟩:=Tp m;rw [h1,zac];cases c with
 | false=>exact ⟨_,rfl,by simp⟩
 | true =>
  obtain ⟨b,e1,q1⟩:=Tn m (h2 rfl).sm;rw [e1];exact ⟨b,by simp [b9],λh=>⟨h2 rfl,q1.1 h⟩⟩
theorem yF.med {m:aj} (h:yF m) (g:MN m):Xa m:=⟨g.aH,by have:=h.e;omega,by have:=h.h;omega,by have:=h.o;omega,by have:=h.u;omega,by have:=h.s;omega,by have:=h.r;omega,h.sm.s⟩
theorem Pk (cR:List Event) (m:aj) (b:Batch) (w:bX) (h:Xa m) (h1:b.records.length<=100) (h2:∀ r,r∈b.records->Sm r):qM (FD cR m b w).1 (FD cR m b w).1=some true:=by
 have ha:=Ft m.aH b w (h.smA h1 h2);have hd:=Ar m.aH.open_ (dP w m.aH.seen 0 b.records).2.1;have k1:=h.l1;have k2:=h.l2;have k3:=h.l3;have k4:=h.opens;have Ax:=I6 w m.aH.seen b.records 0;have hp:=Jh cR (sQ m.aH b w).2.1 m.usages m.aS;have hj:(sQ m.aH b w).2.1.length<=1000/\(sQ m.aH b w).2.2.1.length<=1000:=by
  unfold sQ;split
  ·split
   ·simp only [Rt];omega
   ·simp
  ·simp
 unfold FD;split
 ·apply Lk
  ·simp only;omega
  ·simp only;omega
  ·simp only;omega
  ·simp only;omega
  ·simp only;omega
  ·simp only [zai];omega
 ·apply Lk <;> simp [noM]
theorem Ji (cR:List Event) (m:aj) (x:dB):jH cR m x=some true:=by
 unfold jH;obtain ⟨c1,h1,q1⟩:=ZC cR;obtain ⟨c2,h2,q2⟩:=Xd m;obtain ⟨c3,h3,q3⟩:=Lj x.batch.records;rw [h1,h2,h3,To];simp only [zac,gn];cases c1 with
 | false=>rfl
 | true =>
  cases c2 with
  | false=>rfl
  | true =>
   cases c3 with
   | false=>rfl
   | true =>
    obtain ⟨hl,_,hv⟩:=q1 rfl;obtain ⟨hs,hg⟩:=q2 rfl;obtain ⟨hn,hr⟩:=q3 rfl;simp only [zci,zcj,zbu,zfs,zaz,zbt];have hm:=hs.med hg;rw [Xc cR (by omega) m _ _ hm (by omega) hr,Tq cR hl hv m _ _ hm (by omega) hr,zac,zac,Pk cR m _ _ hm (by omega) hr];simp
end Go.Proofs.YtimkfiaffohhkaaGreatDoor
namespace Go.Abs
open Go.RowKit Go.ChangeShapes Go.WideShapes Go.Deep
inductive Sh where
 | i (k:IntKind)
 | b
 | s
 | sl (row:List Sh)
inductive eu:Sh->D->Prop where
 | i (k:IntKind) (n:Int) (h:(Lit.int k n).wf=true):eu (.i k) (.ex (.int k n))
 | b (x:Bool):eu .b (.ex (.bool x))
 | s (l:List UInt8) (h:l.length<=maxLen):eu .s (.ex (.string ⟨l.toArray⟩))
 | sl (row:List Sh) (rows:List (List D)) (hn:rows.length<=maxLen) (h1:∀ r,r∈rows->r.length=row.length)
   (h:∀ r,r∈rows->∀ (i:Nat) sh d,row[i]?=some sh->r[i]?=some d->eu sh d):eu (.sl row) (.sl row.length rows)
def BF (P:Program) (rec:TypeId->Option (List Sh)):List Field->Nat->Option (List Sh)
 | [],_=>some []
 | f::fs,off=>match rec f.type with
  | some r=>if Nat.beq f.offset off && Nat.beq r.length (P.cellsOf f.type) then (BF P rec fs (off+r.length)).map (r++·) else none
  | none=>none
def shape (P:Program):Nat->TypeId->Option (List Sh)
 | 0,_=>none
 | n+1,t=>match P.underlying t with
  | some (.int k)=>some [.i k]
  | some .bool=>some [.b]
  | some .string=>some [.s]
  | some (.slice e)=>match shape P n e with
   | some r=>if Nat.beq r.length (P.cellsOf e) && Nat.blt 0 r.length then some [.sl r] else none
   | none=>none
  | some (.struct fs)=>match BF P (shape P n) fs.toList 0 with
   | some r=>if Nat.beq r.length (P.cellsOf t) then some r else none
   | none=>none
  | _=>none
def vP (lim:Nat->Nat) (w:World) (FM:List Sh) (cs:List Value):Prop :=
 ∃ ds:List D,ds.length=FM.length/\cs.length=FM.length/\∀ (i:Nat) sh d c,FM[i]?=some sh->ds[i]?=some d->cs[i]?=some c->eu sh d/\dw lim w d c/\c.oneCell'=true
theorem vP.one {lim:Nat->Nat} {w:World} {sh:Sh} {d:D} {c:Value} (h1:eu sh d) (h2:dw lim w d c) (h3:c.oneCell'=true):vP lim w [sh] [c]:=by
 refine ⟨[d],rfl,rfl,λi sh' d' c' ha hb hc=>?_⟩;cases i with
 | zero=>simp at ha hb hc;subst ha;subst hb;subst hc;exact ⟨h1,h2,h3⟩
 | succ i=>simp at ha
theorem vP.nil {lim:Nat->Nat} {w:World}:vP lim w [] []:=⟨[],rfl,rfl,λi _ _ _ h=>by simp at h⟩
theorem vP.append {lim:Nat->Nat} {w:World} {s1 s2:List Sh} {c1 c2:List Value} (h:vP lim w s1 c1) (k:vP lim w s2 c2):vP lim w (s1++s2) (c1++c2):=by
 obtain ⟨d1,a1,b1,e1⟩:=h;obtain ⟨d2,a2,b2,e2⟩:=k;refine ⟨d1++d2,by simp [a1,a2],by simp [b1,b2],λi sh d c ha hb hc=>?_⟩;by_cases hi:i<s1.length
 ·rw [zan hi] at ha;rw [zan (by omega)] at hb hc;exact e1 i sh d c ha hb hc
 ·rw [zav (by omega)] at ha hb hc;rw [a1] at hb;rw [b1] at hc;exact e2 _ sh d c ha hb hc
section opening
variable {H:Type} {enc:TypeId×Value->H} {P:Program} {w:World} {held:Bool} {lim:Nat->Nat}
theorem BG {rec:TypeId->Option (List Sh)} (cs:List Value):∀ (fs:List Field) (off:Nat) (FM:List Sh),BF P rec fs off=some FM->cs.length=off+FM.length ->
  (∀ (i:Nat) f,fs[i]?=some f->∀ r,rec f.type=some r->r.length=P.cellsOf f.type->vP lim w r ((cs.drop f.offset).take (P.cellsOf f.type)))->vP lim w FM (cs.drop off)
 | [],off,FM,h,hl,_=>by
  simp [BF] at h;subst h;rw [zdb (by simp at hl;omega)];exact .nil
 | f::fs,off,FM,h,hl,hf=>by
  unfold BF at h;split at h
  ·rename_i r hr;split at h
   ·rename_i hc;rw [zas] at hc;replace hc:=And.intro (zau hc.1) (zau hc.2);obtain ⟨rest,Kt,rfl⟩:=zcg.1 h;simp only [zai] at hl;have h1:=hf 0 f rfl r hr hc.2;have h2:=BG cs fs (off+r.length) rest Kt (by omega) λi g hg=>hf (i+1) g (by simpa using hg)
    have e:cs.drop off=(cs.drop f.offset).take (P.cellsOf f.type)++cs.drop (off+r.length):=by
     rw [hc.1,←hc.2,←List.drop_drop,zet]
    rw [e];exact h1.append h2
   ·cases h
  ·cases h
theorem uA (zL:∀ b off u,w.cell? ⟨b,off,none⟩=some u->off<lim b):∀ (n:Nat) (t:TypeId) (FM:List Sh),shape P n t=some FM->∀ fuel cs x,DataW.trod enc P w 0 (λ_=>true) held fuel t cs=some x->vP lim w FM cs
 | 0,_,_,h=>by simp [shape] at h
 | n+1,t,FM,h=>by
  intro fuel cs x ht;unfold shape at h;split at h
  ·rename_i k hu;cases h;obtain ⟨m,rfl,_,hw⟩:=DataW.trod_int hu ht;exact .one (.i k m hw) (.ex _) rfl
  ·rename_i hu;cases h;obtain ⟨b,rfl,_⟩:=DataW.trod_bool hu ht;exact .one (.b b) (.ex _) rfl
  ·rename_i hu;cases h;obtain ⟨⟨a⟩,rfl,_,hs⟩:=DataW.trod_string hu ht;exact .one (.s a.toList (by simpa [ByteArray.size] using hs)) (.ex _) rfl
  ·rename_i e hu;split at h
   ·rename_i r hr;split at h
    ·rename_i hc;cases h;rw [zas] at hc;obtain ⟨hc1,Xw⟩:=And.intro (zau hc.1) (iL hc.2);rcases open_slice hu ht with ⟨rfl,_⟩|⟨a,len,cap,m,n',D0,Pl,rfl,hb,hl,hm,ZR,hx,hi⟩
     ·exact .one (.sl r [] (zfh _) (λ_ h=>by cases h) (λ_ h=>by cases h)) (.nil _ _) rfl
     ·simp only [zbu] at ZR;subst ZR;obtain ⟨F,hF⟩:=choose_lt (n:=m) (p:=λi (ds:List D)=>ds.length=r.length/\∀ (j:Nat) sh d,r[j]?=some sh->ds[j]?=some d->∃ c,w.cell? (a.add (i*r.length+j))=some c/\eu sh d/\dw lim w d c/\c.oneCell'=true) (λi hi'=>by
       obtain ⟨Dc,h1,h2⟩:=hi i hi';obtain ⟨ds,k1,k2,k3⟩:=uA zL n e r hr n' Dc _ h2;obtain ⟨_,h3,h4⟩:=World.cells?_some h1;refine ⟨ds,k1,λj sh d hj hd=>?_⟩;have FU:j<r.length:=(zad.1 hj).1;have rX:Dc[j]?=some (Dc[j]'(by omega)):=zae (by omega);refine ⟨Dc[j]'(by omega),?_,k3 j sh d _ hj hd rX⟩;rw [←rX,←h4 j (by omega),←hc1,Go.Deep.add_add])
      have AE:eu (.sl r) (.sl r.length ((List.range len).map F)):=by
       refine .sl r _ (by simp;omega) (λrow rn=>?_) λrow rn i sh d hs hd=>?_
       ·obtain ⟨i,Pt,rfl⟩:=zdj.1 rn;exact (hF i (by have:=List.mem_range.1 Pt;omega)).1
       ·obtain ⟨i',Pt,rfl⟩:=zdj.1 rn;obtain ⟨c,_,hh,_⟩:=(hF i' (by have:=List.mem_range.1 Pt;omega)).2 i sh d hs hd;exact hh
      refine .one AE ?_ rfl;rcases zek m with h0|h0
      ·subst h0;have:len=0:=by omega
       subst this;exact .nil _ _
      ·have Uj:a.spot=none:=by
        obtain ⟨Dc,h1,h2⟩:=hi 0 h0;obtain ⟨_,h3,h4⟩:=World.cells?_some h1;have h5:=h4 0 (by omega);have h6:Dc[0]?=some (Dc[0]'(by omega)):=zae (by omega);rw [h6] at h5;unfold World.cell? at h5;split at h5
        ·split at h5
         ·cases h5
         ·rename_i XD;simpa [Addr.add] using XD
        ·cases h5
       obtain ⟨b,off,sp⟩:=a;simp only at Uj;subst Uj;have eR:∀ i j,i<m->j<r.length->∀ sh d,r[j]?=some sh->(F i)[j]?=some d->∃ c,w.cell? ⟨b,off+(i*r.length+j),none⟩=some c/\eu sh d/\dw lim w d c/\c.oneCell'=true:=λi j hi' hj sh d hs hd=>by
        obtain ⟨c,h1,h2⟩:=(hF i hi').2 j sh d hs hd;rw [Addr.add_lit] at h1;exact ⟨c,h1,h2⟩
       have hlen:((List.range len).map F).length=len:=by simp
       have key:=dw.sl (lim:=lim) (w:=w) r.length ((List.range len).map F) b off m (by rw [hlen];exact hl) (λrow rn=>by
        obtain ⟨i,Pt,rfl⟩:=zdj.1 rn;exact (hF i (by have:=List.mem_range.1 Pt;omega)).1) (λk hk=>by
        rw [hlen] at hk;have hdiv:k / r.length<len:=zdp (by rw [zdi];exact hk);have xp:k % r.length<r.length:=zed _ Xw;obtain ⟨c,h1,h2,h3,h4⟩:=eR (k / r.length) (k % r.length) (by omega) xp _ _ (zae xp) (zae (by rw [(hF _ (by omega)).1];exact xp));have e:k / r.length*r.length+k % r.length=k:=by rw [zdi];exact zel k r.length
        rw [e] at h1;exact ⟨zL _ _ _ h1,c,h1,h4⟩) (λi j row c u h1 h2 h3=>by
        rw [zbc] at h1;obtain ⟨i',Pt,rfl⟩:=zcg.1 h1;have nL:i<len:=by have:=(zad.1 Pt).1;simpa using this
        have:i'=i:=by rw [List.getElem?_range nL] at Pt;cases Pt;rfl
        subst this;have FU:j<r.length:=by have:=(zad.1 h2).1;rw [(hF _ (by omega)).1] at this;exact this
        obtain ⟨c',k1,k2,k3,k4⟩:=eR i' j (by omega) FU _ _ (zae FU) h2;rw [h3] at k1;cases k1;exact k3)
       rw [hlen] at key;exact key
    ·cases h
   ·cases h
  ·rename_i fs hu;split at h
   ·rename_i r hr;split at h
    ·rename_i hc;cases h;have rX:=zau hc;obtain ⟨ys,n',_,hy,hlen,vi,hf⟩:=DataW.trod_struct hu ht;have:=BG (lim:=lim) (w:=w) (P:=P) cs fs.toList 0 _ hr (by omega) λi f hi r' Vm RW=>by
      have h1:=hf i f (by simpa using hi);have Z1:ys[i]?=some (ys[i]'(by have:=(zad.1 hi).1;simp at this;omega)):=zae _;exact uA zL n f.type r' Vm n' _ _ (h1.trans Z1)
     simpa using this
    ·cases h
   ·cases h
  ·cases h
end opening
end Go.Abs
namespace Go.Abs
open Go.RowKit Go.ChangeShapes Go.WideShapes Go.Deep Go.ChangeAt
def RQ (w:World) (b:Nat):Nat:=match w.heap[b]? with
 | some (.cells c _ _)=>c.size
 | _=>0
theorem N6 (w:World) (b off:Nat) (u:Value) (h:w.cell? ⟨b,off,none⟩=some u):off<RQ w b:=by
 unfold World.cell? at h;unfold RQ;split at h
 ·rename_i c e k hb;simp only at hb;rw [hb];simp only [Option.isSome_none,zaz,zbt] at h;exact (zaw.1 h).1
 ·cases h
theorem vP.top {lim:Nat->Nat} {w:World} {sh:Sh} {c:Value} (h:vP lim w [sh] [c]):∃ d,eu sh d/\dw lim w d c:=by
 obtain ⟨ds,h1,_,h3⟩:=h
 match ds,h1 with
 | [d],_=>exact ⟨d,(h3 0 sh d c rfl rfl rfl).1,(h3 0 sh d c rfl rfl rfl).2.1⟩
section top
variable {H:Type} {enc:TypeId×Value->H} {P:Program} {w:World} {held:Bool} {r:Reach} {b0:Nat} {t:TypeId} {v:Value} {d:DataW H} {ps:List MemPlace}
theorem Pm {n:Nat} {e:TypeId} {row:List Sh} (hs:shape P n t=some [.sl row]) (ht:P.underlying t=some (.slice e)) (hv:Value.okWide P w r b0 t v) (h:DataW.Trod enc P w 0 (λ_=>true) held t v d ps):∃ x,eu (.sl row) x/\dw (RQ w) w x v:=by
 obtain ⟨a,l,c,rfl⟩:=okWide_slice ht hv;obtain ⟨fuel,hf⟩:=h;exact (uA (N6 w) n t _ hs fuel _ _ hf).top
end top
theorem N7 {α:Type} {row:α->List D} {p:α->Prop}:∀ {rows:List (List D)},(∀ r,r∈rows->∃ x,p x/\r=row x)->∃ l:List α,rows=l.map row/\∀ x,x∈l->p x
 | [],_=>⟨[],rfl,λx h=>by cases h⟩
 | r::rows,h=>by
  obtain ⟨x,hx,rfl⟩:=h r zaj;obtain ⟨l,rfl,hl⟩:=N7 (rows:=rows) (row:=row) (p:=p) λr' hr=>h r' (zah _ hr)
  exact ⟨x::l,rfl,λy hy=>by rcases zaq.1 hy with rfl|hy;exact hx;exact hl y hy⟩
theorem eu.Xe {row:List Sh} {d:D} (h:eu (.sl row) d):∃ rows,d=.sl row.length rows/\rows.length<=maxLen/\∀ r,r∈rows->r.length=row.length/\∀ (i:Nat) sh d,row[i]?=some sh->r[i]?=some d->eu sh d:=by
 cases h with
 | sl _ rows hn h1 h=>exact ⟨rows,rfl,hn,λr hr=>⟨h1 r hr,h r hr⟩⟩
theorem eu.eZ {d:D} (h:eu (.i .i64) d):∃ n:Int,d=.ex (.int .i64 n)/\-9223372036854775808<=n/\n<=9223372036854775807:=by
 cases h with
 | i _ n hw=>simp only [Lit.wf,zas,zak] at hw;exact ⟨n,rfl,hw⟩
theorem eu.RR {d:D} (h:eu .b d):∃ x:Bool,d=.ex (.bool x):=by cases h with|b x=>exact ⟨x,rfl⟩
section
variable {H:Type} {enc:TypeId×Value->H} {P:Program}
theorem GA {f:Func} {s:ChangeSpec} {apart fresh handsOn again:Bool} {W W':World} {args:Array Value} {v:Value} {ds gs:List (DataW H)} {before pa pv:List MemPlace}
  (hW:DataW.Whole enc P f.params.toList s.vars apart W args.toList ds gs before)
  (SG:∀ (b:Nat) (sp:Nat->Bool) (hd:Bool),DataW.TrodAll enc P W' b sp hd f.resultTypes.toList (v.resultList f.resultTypes.size) (s.fn H (ds++gs)).results [])
  (Kd:∀ sp:Nat->Bool,(∀ p∈before,sp p.block=true)->DataW.TrodAll enc P W' 0 sp true f.params.toList args.toList (s.fn H (ds++gs)).args pa)
  (Uk:∀ sp:Nat->Bool,(∀ p∈before,sp p.block=true)->DataW.TrodVars enc P W' sp s.vars (s.fn H (ds++gs)).vars pv)
  (hps:before=pa++pv) (hb:Below W.heap.size W W')
  (xt:∀ (j:Nat) (t:TypeId) (r:Value),f.resultTypes[j]?=some t->(v.resultList f.resultTypes.size)[j]?=some r->Value.okWide P W' .any 0 t r) :
  s.post enc P f apart fresh handsOn again W args v W':=by
 have cE:∀ p∈before,p.block<W.heap.size:=λp hp=>hW.lt p hp
 have hold:∀ p∈before,(λb=>decide (b<W.heap.size)) p.block=true:=λp hp=>by simpa using cE p hp
 refine ⟨ds,gs,before,[],pa,pv,hW,SG _ _ _,Kd _ hold,Uk _ hold,World.keptBut_mono (λp hp=>⟨hp,?_⟩) (hb.frame (·∈before)),λ_=>?_⟩
 ·rw [hps,zbm] at hp;exact Or.inr hp
 ·obtain ⟨_,_,_,_,_,hz,hn⟩:=hW;refine ⟨xt,_,_,([]++pa)++pv,⟨[]++pa,pv,trodAll_append (Kd _ (λ_ _=>rfl)) (SG _ _ _),Uk _ (λ_ _=>rfl),rfl,?_,?_⟩,?_⟩
  ·intro b off hp;have CN:MemPlace.cell b off∈before:=by rw [hps];simpa using hp
   rw [hb.frozen (cE _ CN)];exact hz b off CN
  ·intro ha;have:=hn ha;rw [hps] at this;simpa using this
  ·intro p hp _;rw [hps];simpa using hp
end
theorem zH {H:Type} {enc:TypeId×Value->H} {P:Program} (hl:laidOutB P=true) {W W':World} (hb:Below W.heap.size W W') (sp:Nat->Bool):∀ {ts:List TypeId} {vs:List Value} {ds:List (DataW H)} {ps:List MemPlace},
  (ts.all λt=>P.readableRec t && decide (t<P.types.size))=true->DataW.TrodAll enc P W 0 (λ_=>true) true ts vs ds ps->(∀ x∈ps,x.block<W.heap.size)->(∀ x∈ps,sp x.block=true)->DataW.TrodAll enc P W' 0 sp true ts vs ds ps
 | [],[],[],_,_,h,_,_=>h
 | t::ts,v::vs,d::ds,ps,hr,h,cE,XD=>by
  obtain ⟨p,q,h1,h2,rfl⟩:=h;simp only [zej,zas,zak] at hr;refine ⟨p,q,?_,?_,rfl⟩
  ·exact WideElems.Trod_stays hl hr.1.1 hr.1.2 h1 (λx hx=>hb.same (cE x (zfu _ hx))) (λx hx=>XD x (zfu _ hx))
  ·exact zH hl hb sp (by simpa using hr.2) h2 (λx hx=>cE x (List.mem_append_right _ hx)) (λx hx=>XD x (List.mem_append_right _ hx))
theorem eu.CD {d:D} (h:eu .s d):∃ l:List UInt8,d=.ex (.string ⟨l.toArray⟩)/\l.length<=maxLen:=by cases h with|s l h=>exact ⟨l,rfl,h⟩
theorem RS {α:Type} {row:α->List D} {p:α->Prop} {rows:List (List D)} (h:∀ r,r∈rows->∃ x,r=row x/\p x):∃ l:List α,rows=l.map row/\∀ x,x∈l->p x :=
 N7 λr hr=>let ⟨x,h1,h2⟩:=h r hr;⟨x,h2,h1⟩
theorem eu.w7 {sh:List Sh} {d:D} {α:Type} {row:α->List D} {p:α->Prop} (h:eu (.sl sh) d)
  (hr:∀ r:List D,r.length=sh.length->(∀ (i:Nat) h d,sh[i]?=some h->r[i]?=some d->eu h d)->∃ x,r=row x/\p x) :
  ∃ l:List α,d=.sl sh.length (l.map row)/\l.length<=maxLen/\∀ z,z∈l->p z:=by
 obtain ⟨rows,rfl,hn,h2⟩:=h.Xe;obtain ⟨l,rfl,hl⟩:=RS (row:=row) (p:=p) λr hrm=>hr r (h2 r hrm).1 (h2 r hrm).2
 exact ⟨l,rfl,by simpa using hn,hl⟩
section top
variable {H:Type} {enc:TypeId×Value->H} {P:Program} {w:World} {held:Bool} {r:Reach} {b0:Nat} {t:TypeId} {v:Value} {d:DataW H} {ps:List MemPlace}
theorem N8 {n:Nat} {FM:List Sh} {fs:Array Field} (hs:shape P n t=some FM) (ht:P.underlying t=some (.struct fs)) (hv:Value.okWide P w r b0 t v) (h:DataW.Trod enc P w 0 (λ_=>true) held t v d ps) :
  ∃ x:List D,x.length=FM.length/\(∀ (i:Nat) sh d,FM[i]?=some sh->x[i]?=some d->eu sh d)/\dw (RQ w) w (.agg x) v:=by
 obtain ⟨cs,rfl,_⟩:=okWide_struct ht hv;obtain ⟨fuel,hf⟩:=h;obtain ⟨ds,h1,h2,h3⟩:=uA (N6 w) n t _ hs fuel _ _ hf;have BN:cs.size=FM.length:=by simpa [Value.cells] using h2
 refine ⟨ds,h1,λi sh d hi hd=>?_,.agg ds cs (by omega) (λi u hu=>?_) λi c u hc hu=>?_⟩
 ·have nL:i<cs.size:=by have:=(zad.1 hi).1;omega
  exact (h3 i sh d cs[i] hi hd (by simp [Value.cells,nL])).1
 ·have nL:i<FM.length:=by have:=(zaw.1 hu).1;omega
  exact (h3 i FM[i] (ds[i]'(by omega)) u (zae nL) (zae (by omega)) (by simpa [Value.cells] using hu)).2.2
 ·have nL:i<FM.length:=by have:=(zaw.1 hu).1;omega
  exact (h3 i FM[i] c u (zae nL) hc (by simpa [Value.cells] using hu)).2.1
end top
end Go.Abs
