/- Our own texts of this seat. -/
import Derived.Test.YtimkfiaffohhkaaGreatDoorYT4
set_option linter.unusedSimpArgs false
set_option linter.unusedVariables false
set_option linter.unusedSectionVars false
set_option maxRecDepth 100000
set_option maxHeartbeats 1000000
namespace Go.Proofs.YtimkfiaffohhkaaGreatDoor
open Go.RowKit Go.Abs
theorem H3 (x:aa):∀ (i:Int) (l:List aa),0<=i->(uJ x i l=-1/\∀ r,r∈l->bZ r x=false)∨(∃ pre r t,l=pre++r::t/\(∀ y,y∈pre->bZ y x=false)/\bZ r x=true/\uJ x i l=i+pre.length)
 | i,[],_=>.inl ⟨rfl,by simp⟩
 | i,r::l,h0=>by
  unfold uJ;by_cases h:bZ r x=true
  ·rw [zaa h];exact .inr ⟨[],r,l,rfl,by simp,h,by simp⟩
  ·rw [zab h];rcases H3 x (i+1) l (by omega) with ⟨h1,h2⟩|⟨pre,y,t,h1,h2,h3,h4⟩
   ·exact .inl ⟨h1,λy hy=>by
     rcases zan.1 hy with e|hy
     ·rw [e];simpa using h
     ·exact h2 y hy⟩
   ·refine .inr ⟨r::pre,y,t,by rw [h1];rfl,λz hz=>?_,h3,by rw [h4];simp only [zai];omega⟩;rcases zan.1 hz with e|hz
    ·rw [e];simpa using h
    ·exact h2 z hz
theorem Lo (x:aa):∀ (l:List aa),runN x l=(Jz x l).length
 | []=>rfl
 | r::l=>by
  have ih:=Lo x l;unfold runN;unfold Jz at ih ⊢;by_cases h:bZ r x=true
  ·rw [zaa h,List.takeWhile_cons_of_pos (p:=λr=>bZ r x) h,zai,ih]
  ·rw [zab h,List.takeWhile_cons_of_neg (p:=λr=>bZ r x) h];rfl
theorem Sx {x:aa} {l:List aa} (hs:P8 l):(uJ x 0 l<0/\∀ r,r∈l->bZ r x=false)∨(∃ pre run post,l=pre++(run++post)/\uJ x 0 l=(pre.length:Int)/\runN x (l.drop (uJ x 0 l).toNat)=run.length/\0<run.length/\(∀ r,r∈pre->bZ r x=false)/\(∀ r,r∈run->bZ r x=true)/\(∀ r,r∈post->bZ r x=false)):=by
 rcases H3 x 0 l (zft _) with ⟨h1,h2⟩|⟨pre,r,t,h1,h2,h3,h4⟩
 ·exact .inl ⟨by omega,h2⟩
 ·right;have e:∀ (l:List aa),Jz r l=Jz x l/\F8 r l=F8 x l:=λl=>by
   unfold Jz F8;have:(λy=>bZ y r)=λy=>bZ y x:=funext λy=>BX h3
   rw [this];exact ⟨rfl,rfl⟩
  have xr:P8 (r::t):=by rw [h1] at hs;exact (zea.1 hs).2.1
  have hd:l.drop (uJ x 0 l).toNat=r::t:=by rw [h4,h1,show (0+(pre.length:Int)).toNat=pre.length from by omega,zfo]
  refine ⟨pre,Jz x (r::t),F8 x (r::t),by rw [Sn];exact h1,by omega,by rw [hd,Lo],?_,h2,Sp,λy hy=>?_⟩
  ·unfold Jz;rw [List.takeWhile_cons_of_pos (p:=λr=>bZ r x) h3];simp
  ·rw [←BX h3];rw [←(e (r::t)).2] at hy;exact Qb xr y hy
theorem xf (x:aa):∀ (m m':Nat) (now:List aa),now.length<m->now.length<m'->hC m now x=hC m' now x
 | 0,_,_,h,_=>by omega
 | _,0,_,_,h=>by omega
 | m+1,m'+1,now,h,h'=>by
  unfold hC;cases hc:jG (kG true x 1 now).1 with
  | none=>rfl
  | some w =>
   have hl:=zk (last:=true) (x:=x) (n:=1) (l:=now);have hp:0<(kG true x 1 now).1.length:=zde.2 (tB hc);simp only [xf x m m' (kG true x 1 now).2 (by omega) (by omega)]
theorem H4 (x:aa):∀ (m:Nat) (now:List aa),(hC m now x).1.length+(hC m now x).2.length<=now.length
 | 0,now=>by simp [hC]
 | m+1,now=>by
  unfold hC;split
  ·simp
  ·rename_i w hc;have hl:=zk (last:=true) (x:=x) (n:=1) (l:=now);have hp:0<(kG true x 1 now).1.length:=zde.2 (tB hc);have ih:=H4 x m (kG true x 1 now).2;simp only [zai];omega
structure Wt (l:List aa):Prop where
 HY:P8 l
 ok:∀ r,r∈l->cW r=0
theorem Wt.sm {l:List aa} (h:Wt l):∀ r,r∈l->Sm r:=λr hr=>JA (h.ok r hr)
theorem Wt.le {l:List aa} (h:Wt l):∀ r,r∈l->r.part<=99:=λr hr=>(mJ (h.ok r hr)).part.2
theorem Wt.sub {l l':List aa} (h:Wt l) (hs:l'.Sublist l):Wt l':=⟨h.HY.sublist hs,λr hr=>h.ok r (hs.subset hr)⟩
theorem Sj.wt {l:List aa} (h:Sj l):Wt l:=⟨h.HY,λr hr=>(h.ok r hr).1⟩
theorem Wt.ins {l:List aa} (h:Wt l) {p:aa} (hp:cW p=0):Wt (pn l p):=⟨F4 h.HY,λr hr=>by
 rcases BY.1 hr with e|hr
 ·rw [e];exact hp
 ·exact h.ok r hr⟩
theorem C7 (x:aa):∀ (m:Nat) (now:List aa),(hC m now x).2.Sublist now
 | 0,now=>List.Sublist.refl _
 | m+1,now=>by
  unfold hC;split
  ·exact List.Sublist.refl _
  ·exact (C7 x m _).trans (BZ _ _ _ _)
theorem Wt.step {l:List aa} (h:Wt l) {p:aa} (hp:cW p=0):Wt (jH l p).2:=by
 unfold jH;split
 ·exact h
 ·exact (h.ins hp).sub (C7 _ _ _)
theorem C8 (l:List aa) (p:aa):(jH l p).1.length+(jH l p).2.length<=l.length+1:=by
 unfold jH;split
 ·simp;omega
 ·have:=H4 p (l.length+2) (pn l p);rw [F3] at this;exact this
theorem Sy (x:aa) (now out:List aa) (h:Wt now) (hl:now.length+out.length<=1000):iO (A8 x) now out=some ((hC (now.length+1) now x).2,out++(hC (now.length+1) now x).1):=by
 unfold iO;refine qU (λs:List aa×List aa=>some ((hC (s.1.length+1) s.1 x).2,s.2++(hC (s.1.length+1) s.1 x).1)) (λs=>Wt s.1/\s.1.length+s.2.length<=1000) (λs=>s.1.length) ?_ ⟨h,hl⟩ (by simp only;omega);rintro ⟨l,o⟩ ⟨hw,hb⟩;simp only at hw hb ⊢;unfold gf;rw [UB l x (by omega)];rcases Sx (x:=x) hw.HY with ⟨h1,h2⟩|⟨pre,run,post,e,h1,h2,h3,h4,h5,h6⟩
 ·rw [zaa h1];simp only [zac];rw [af (by omega),af (by omega)];simp only [Int.toNat_zero,List.take_zero,List.drop_zero];rw [OB [] x true (by simp) .nil (by simp) (by simp)];simp only [zac,nX];rw [OC [] [] (by simp) (by simp) .nil (by simp)];simp only [zac,rC];rw [Ga [] (by simp) (by simp),AW];simp only [zac,zN,X9,zcb,zbt];refine .inl ⟨_,rfl,?_⟩;have:hC (l.length+1) l x=([],l):=by
   unfold hC;rw [B0 true (λr hr hc=>by rw [h2 r hr] at hc;simp at hc)];rfl
  rw [this,zbn]
 ·have hlen:l.length=pre.length+(run.length+post.length):=by rw [e];simp
  rw [h2,h1,zab (by omega)];simp only [zac];have hrs:run.Sublist l:=by
   rw [e];exact (List.sublist_append_left run post).trans (List.sublist_append_right pre _)
  have QB:(l.take ((pre.length:Int)+(run.length:Int)).toNat).drop ((pre.length:Int)).toNat=run:=by
   rw [e,show ((pre.length:Int)+(run.length:Int)).toNat=pre.length+run.length from by omega,show ((pre.length:Int)).toNat=pre.length from by omega,←zat,←zak,zfm,zfo]
  have hwr:=hw.sub hrs;rw [af (by omega),af (by omega),QB,OB run x true (by omega) hwr.HY h5 hwr.le];have YQ:=B4 true x 1 0 run;simp only [zac];rw [OC run _ (by omega) (by omega) (F7 _ _ _ _ _) (λa ha=>by have:=B2 true x 1 0 run a ha;omega),xe];have sE:=zk (last:=true) (x:=x) (n:=1) (l:=run);simp only [zac];rw [Ga _ (Ss hwr.sm).1 (by omega)];simp only [zac];have J1:kG true x 1 l=((kG true x 1 run).1,pre++((kG true x 1 run).2++post)):=by
   rw [e,Ow true (λr hr hc=>by rw [h4 r hr] at hc;simp at hc),F5 true h6]
  cases hc:jG (kG true x 1 run).1 with
  | none =>
   simp only [zN,X9,zcb,zbt];refine .inl ⟨_,rfl,?_⟩;have:hC (l.length+1) l x=([],l):=by
    unfold hC;rw [J1,hc]
   rw [this,zbn]
  | some w =>
   have hp:0<(kG true x 1 run).1.length:=zde.2 (tB hc);simp only [zN,zbu,zay,zbs];unfold sL;rw [af ⟨by omega,by omega,by omega,by omega,by omega⟩];simp only [zac];rw [af (by simp only [zai,zbh];omega)];have mY:l.take ((pre.length:Int)).toNat++(kG true x 1 run).2++l.drop ((pre.length:Int)+(run.length:Int)).toNat=(kG true x 1 l).2:=by
    rw [J1]
    conv=>lhs;rw [e]
    rw [show ((pre.length:Int)+(run.length:Int)).toNat=pre.length+run.length from by omega,show ((pre.length:Int)).toNat=pre.length from by omega,zfm,←zat pre run post,←zak,zfo,zat]
   rw [mY];have zV:=zk (last:=true) (x:=x) (n:=1) (l:=l);rw [J1] at zV;simp only at zV;have hl3:(kG true x 1 l).2.length<l.length:=by rw [J1];simp only;omega
   refine .inr ⟨_,rfl,⟨hw.sub (BZ _ _ _ _),by simp only [zak,zai,zbh];omega⟩,by simp only;omega,?_⟩;simp only;have:hC (l.length+1) l x=(w::(hC l.length (kG true x 1 l).2 x).1,(hC l.length (kG true x 1 l).2 x).2):=by
    conv=>lhs;unfold hC
    rw [show (kG true x 1 l).1=(kG true x 1 run).1 from by rw [J1],hc]
   rw [this,xf x ((kG true x 1 l).2.length+1) l.length _ (by omega) (by omega)];simp
theorem Sz (now l:List aa) (h:Wt now) (hv:∀ r,r∈l->cW r=0) (hl:now.length+l.length<=1000):jg now l=some (eX now l):=by
 unfold jg fj;rw [af (by omega)];simp only [zac];refine (bj l (λs:List aa×List aa×Int=>s.2.2) (λs t=>some (s.2.1++(eX s.1 t).1,(eX s.1 t).2)) (λs t=>Wt s.1/\(∀ r,r∈t->cW r=0)/\s.1.length+s.2.1.length+t.length<=1000) (by omega) ?_ ?_ (s:=(now,([]:List aa),(0:Int))) rfl ⟨h,hv,by simp only [zbh];omega⟩).trans (by simp)
 ·rintro ⟨w,o,i⟩ ⟨h1,h2,h3⟩ hi;simp only at h1 h2 h3 hi ⊢;unfold kR;rw [zab (by simp only [zaj];omega)];exact ⟨_,rfl,by simp [eX]⟩
 ·rintro ⟨w,o,i⟩ r t ⟨h1,h2,h3⟩ jJ gC hn hlen;simp only at h1 h2 h3 jJ gC hn hlen ⊢;simp only [zai] at h3;have hr:=h2 r (zah ..);have ht:∀ r,r∈t->cW r=0:=λy hy=>h2 y (zag _ hy)
  unfold kR;rw [zaa (by simpa using gC),af ⟨jJ,gC⟩,hn];by_cases hp:r.part=0
  ·rw [zaa (by simpa using hp),af (by simp only [zai,zbh];omega),af (by omega)];refine .inr ⟨_,rfl,⟨h1,ht,by simp only [zak,zai,zbh];omega⟩,rfl,?_⟩;simp only [eX,jH,hp,zbt];simp
  ·rw [zab (by simpa using hp)];have es:jH w r=hC (w.length+2) (pn w r) r:=by unfold jH;rw [zab hp]
   have hins:=h1.ins hr;have oM:=F3 w r;have key:loop (λs=>iP l w o i s) 0=some (.inl ((jH w r).2,o++(jH w r).1,i+1)):=by
    refine bj w (λs:Int=>s) (λs t=>(some (Sum.inl ((jH w r).2,o++(jH w r).1,i+1)):Option ((List aa×List aa×Int) ⊕ (List aa×List aa)))) (λs t=>t=w.drop s.toNat/\pn w r=w.take s.toNat++pn t r) (by omega) ?_ ?_ rfl ⟨rfl,by simp⟩
    ·intro k ⟨_,hk⟩ hke;unfold iP gB;rw [af (λh=>by simp at h;omega),af (λh=>by simp at h;omega)];have e0:decide (k<(w.length:Int))=false:=by simp;omega
     simp only [e0,bH,zay,zbs,zac,zcv,hn];unfold qb;rw [af ⟨by omega,by omega,by simp,by simp only [zai,zbh];omega⟩];have e1:w.take k.toNat++[r]++w.drop k.toNat=pn w r:=by
      rw [hk,zds (by omega)];simp [pn]
     simp only [zac,dh,e1];rw [show (⟨r.source,r.call⟩:aV)=A8 r from rfl,Sy r (pn w r) o hins (by omega),xf r ((pn w r).length+1) (w.length+2) _ (by omega) (by omega),←es];simp only [zac];rw [af (by omega)];exact ⟨_,rfl,rfl⟩
    ·intro k y u ⟨hdu,hk⟩ RS cU hny hkl;have hu:w.drop (k.toNat+1)=u:=by
      rw [p7 (l:=w) (k:=k.toNat) (by omega)] at hdu;injection hdu with _ h;exact h.symm
     unfold iP gB;rw [af (λ_=>⟨RS,cU⟩),af (λ_=>by omega)];obtain ⟨c,hc,qK⟩:=Sv y r;have e0:decide (k<(w.length:Int))=true:=by simp;omega
     simp only [e0,bH,zbt,hny,hn,hc,zac,zcg];by_cases cJ:Lt r y
     ·rw [zab (by simp;exact Int.lt_of_not_ge (λh=>(qK.1 h) cJ))];unfold qb;rw [af ⟨by omega,by omega,by simp,by simp only [zai,zbh];omega⟩];have e1:w.take k.toNat++[r]++w.drop k.toNat=pn w r:=by
       rw [hk,p7 (l:=w) (k:=k.toNat) (by omega),hny];rw [hu];unfold pn;rw [zaa cJ];simp
      simp only [zac,dh,e1];rw [show (⟨r.source,r.call⟩:aV)=A8 r from rfl,Sy r (pn w r) o hins (by omega),xf r ((pn w r).length+1) (w.length+2) _ (by omega) (by omega),←es];simp only [zac];rw [af (by omega)];exact .inl ⟨_,rfl,rfl⟩
     ·rw [zaa (by simp;exact qK.2 cJ),af (by omega)];refine .inr ⟨_,rfl,⟨by rw [show (k+1).toNat=k.toNat+1 from by omega,hu],?_⟩,rfl,by first|rfl|trivial⟩;rw [hk,show (k+1).toNat=k.toNat+1 from by omega,mi (by omega),hny]
      conv=>lhs;unfold pn
      rw [zab cJ];simp
   rw [key];have QB:=C8 w r;refine .inr ⟨_,rfl,⟨h1.step hr,ht,by simp only [zak];omega⟩,rfl,?_⟩;simp only [eX];simp
def jd (s:Int):Int->List Head->Int
 | k,[]=>k
 | k,h::t=>jd s (if h.source=s then h.number+1 else k) t
def VP (h:Head):Prop:=-9223372036854775808<=h.number/\h.number<=9223372036854775806
theorem UC (l:List Head) (n:Nat) (s:Int) (hn:n<=l.length) (hl:l.length<=100000) (tO:∀ h,h∈l.take n->VP h):rf l (n:Int) s=some (jd s 1 (l.take n)):=by
 unfold rf;have fc:(l.take n).length=n:=by rw [zba];omega
 refine bj (l.take n) (λst:Int×Int=>st.2) (λst t=>some (jd s st.1 t)) (λst t=>∀ h,h∈t->VP h) (by omega) ?_ ?_ (s:=((1:Int),(0:Int))) rfl tO
 ·rintro ⟨k,i⟩ _ hi;simp only at hi ⊢;unfold rK;rw [zab (by simp only [zaj];omega)];exact ⟨_,rfl,rfl⟩
 ·rintro ⟨k,i⟩ h t ht jJ gC hx hlen;simp only at ht jJ gC hx hlen ⊢;have kq:nth l i.toNat=h:=by
   rw [←hx,l8 (by omega),l8 (by omega),List.getElem_take]
  have:=ht h (zah ..);unfold VP at this;unfold rK;rw [zaa (by simp only [zaj];omega),af (by omega),kq];by_cases hs:h.source=s
  ·rw [zaa (by simpa using hs),af (by omega),af (by omega),af (by omega)];refine .inr ⟨_,rfl,λx hx=>ht x (zag _ hx),rfl,?_⟩;simp only [jd,hs,zbt]
  ·rw [zab (by simpa using hs),af (by omega)];refine .inr ⟨_,rfl,λx hx=>ht x (zag _ hx),rfl,?_⟩;simp only [jd,hs,zbs]
def xR (h:Head):Prop:=(1<=h.source/\h.source<=99)/\(1<=h.number/\h.number<=999999999)/\(1<=h.format/\h.format<=3)/\(0<=h.count/\h.count<=4096)
instance (h:Head):Decidable (xR h):=by unfold xR;infer_instance
def Gd:List Head->List Head->Bool
 | _,[]=>true
 | d,h::t=>decide (xR h/\h.number=jd h.source 1 d) && Gd (d++[h]) t
theorem EB {h:Head} (o:xR h):VP h:=by unfold xR at o;unfold VP;omega
theorem C9:∀ {d l:List Head},Gd d l=true->∀ h,h∈l->xR h
 | _,[],_,h,hm=>by cases hm
 | d,x::l,hb,h,hm=>by
  simp only [Gd,zaq,zaj] at hb;rcases zan.1 hm with rfl|hm
  ·exact hb.1.1
  ·exact C9 hb.2 h hm
theorem SA (v:aI) (hl:v.aK.length<=100000):sb v=some (Gd [] v.aK):=by
 unfold sb;have:=bj v.aK (step:=λs=>nA v s) (λs:Int=>s) (λs t=>some (Gd (v.aK.take s.toNat) t)) (λs t=>∀ h,h∈v.aK.take s.toNat->xR h) (by omega) (s:=0) ?_ ?_ rfl (by simp)
 ·exact this
 ·intro i _ hi;unfold nA;rw [zab (by simp only [zaj];omega)];exact ⟨_,rfl,rfl⟩
 ·intro i h t ht jJ gC hx hlen;unfold nA;rw [zaa (by simpa using gC),af ⟨jJ,gC⟩,hx];by_cases h1:(1<=h.source/\h.source<=99)/\(1<=h.number/\h.number<=999999999)
  ·have e1:((((decide (h.source<1)) || (decide (h.source > 99))) || (decide (h.number<1))) || (decide (h.number > 999999999)))=false:=by simp;omega
   have hn:rf v.aK i h.source=some (jd h.source 1 (v.aK.take i.toNat)):=by
    have:=UC v.aK i.toNat h.source (by omega) hl (λx hx=>EB (ht x hx))
    rwa [show ((i.toNat:Nat):Int)=i from by omega] at this
   simp only [e1,zcb,bH,zbt,hn,zac,zcw];by_cases h2:xR h/\h.number=jd h.source 1 (v.aK.take i.toNat)
   ·have h3:=h2.1;unfold xR at h3;rw [zab (by simp [h2.2.symm];omega),af (by omega)];refine .inr ⟨_,rfl,?_,rfl,?_⟩
    ·rw [show (i+1).toNat=i.toNat+1 from by omega,mi (by omega),hx];intro y hy;rcases zbb.1 hy with hy|hy
     ·exact ht y hy
     ·simp at hy;subst hy;exact h2.1
    ·rw [show (i+1).toNat=i.toNat+1 from by omega,mi (by omega),hx];simp only [Gd,zct h2,zcg]
   ·rw [zaa (by
     unfold xR at h2;simp only [zbx,bne_iff_ne,zaj];by_cases hq:h.number=jd h.source 1 (v.aK.take i.toNat)
     ·have:¬((1<=h.format/\h.format<=3)/\(0<=h.count/\h.count<=4096)):=λhh=>h2 ⟨⟨h1.1,h1.2,hh.1,hh.2⟩,hq⟩
      omega
     ·exact .inl (.inl (.inl (.inl hq))))]
    exact .inl ⟨_,rfl,by simp only [Gd,zcf h2,zcv]⟩
  ·have e1:((((decide (h.source<1)) || (decide (h.source > 99))) || (decide (h.number<1))) || (decide (h.number > 999999999)))=true:=by simp;omega
   simp only [e1,zbu,bH,zay,zbs,zac,zdv,zbt];refine .inl ⟨_,rfl,?_⟩;have:¬(xR h/\h.number=jd h.source 1 (v.aK.take i.toNat)):=λhh=>h1 ⟨hh.1.1,hh.1.2.1⟩
   simp only [Gd,zcf this,zcv]
def oE (r:Range):Prop:=(1<=r.source/\r.source<=99)/\1<=r.from_/\r.from_<=r.ia/\r.ia<=999999999
instance (r:Range):Decidable (oE r):=by unfold oE;infer_instance
def zm (p r:Range):Prop:=p.source<r.source∨(p.source=r.source/\p.ia+1<r.from_)
instance (p r:Range):Decidable (zm p r):=by unfold zm;infer_instance
def sC:Option Range->List Range->Bool
 | _,[]=>true
 | none,r::t=>decide (oE r) && sC (some r) t
 | some p,r::t=>decide (oE r/\zm p r) && sC (some r) t
structure Can (l:List Range):Prop where
 ok:∀ r,r∈l->oE r
 HY:l.Pairwise zm
theorem yI:∀ (o:Option Range) (t:List Range),(∀ p,o=some p->oE p)->(sC o t=true↔(∀ r,r∈t->oE r)/\(o.toList++t).Pairwise zm)
 | o,[],_=>by cases o <;> simp [sC]
 | none,r::t,_=>by
  simp only [sC,zaq,zaj,zfk,zcc];constructor
  ·rintro ⟨h1,h2⟩;have ih:=(yI (some r) t (λp hp=>by cases hp;exact h1)).1 h2;simp only [zex,zbv] at ih;refine ⟨λx hx=>?_,ih.2⟩;rcases zan.1 hx with rfl|hx
   ·exact h1
   ·exact ih.1 x hx
  ·rintro ⟨h1,h2⟩;refine ⟨h1 r (zah ..),(yI (some r) t (λp hp=>by cases hp;exact h1 r (zah ..))).2 ⟨λx hx=>h1 x (zag _ hx),by simpa using h2⟩⟩
 | some p,r::t,hp=>by
  simp only [sC,zaq,zaj,zex,zbv];constructor
  ·rintro ⟨⟨h1,h3⟩,h2⟩;have ih:=(yI (some r) t (λp hp=>by cases hp;exact h1)).1 h2;simp only [zex,zbv] at ih;refine ⟨λx hx=>?_,zax.2 ⟨λx hx=>?_,ih.2⟩⟩
   ·rcases zan.1 hx with rfl|hx
    ·exact h1
    ·exact ih.1 x hx
   ·rcases zan.1 hx with rfl|hx
    ·exact h3
    ·have h4:=(zax.1 ih.2).1 x hx;unfold oE at h1;unfold zm at h3 h4 ⊢;omega
  ·rintro ⟨h1,h2⟩;have h3:=zax.1 h2;have hr:=h1 r (zah ..);exact ⟨⟨hr,h3.1 r (zah ..)⟩,(yI (some r) t (λp hp=>by cases hp;exact hr)).2 ⟨λx hx=>h1 x (zag _ hx),by simpa using h3.2⟩⟩
theorem JC (l:List Range):sC none l=true↔Can l:=by
 rw [yI none l (λp hp=>by cases hp)];simp only [zfk,zcc];exact ⟨λh=>⟨h.1,h.2⟩,λh=>⟨h.ok,h.HY⟩⟩
theorem wk (s n:Int):((((decide (s>=1)) && (decide (s<=99))) && (decide (n>=1))) && (decide (n<=999999999)))=decide ((1<=s/\s<=99)/\1<=n/\n<=999999999):=by
 rw [zbo,zbr];simp;omega
theorem Ya (l:List Range) (hl:l.length<=100000):sd l=some (sC none l):=by
 unfold sd;have:=bj l (step:=λs=>nB l s) (λs:Int=>s) (λs t=>some (sC (if s=0 then none else some (nth l (s-1).toNat)) t)) (λs t=>s≠0->oE (nth l (s-1).toNat)) (by omega) (s:=0) ?_ ?_ rfl (by simp)
 ·exact this
 ·intro i _ hi;unfold nB;rw [zab (by simp only [zaj];omega)];exact ⟨_,rfl,by simp [sC]⟩
 ·intro i r t hpv jJ gC hx hlen;unfold nB;rw [zaa (by simpa using gC),af ⟨jJ,gC⟩,hx];simp only [jB,wk,zac,zgd,dR];have e1:(i+1=0)=False:=by simp;omega
  have e2:(i+1-1).toNat=i.toNat:=by omega
  by_cases hr:oE r
  ·have Rz:=hr;unfold oE at Rz;have d1:decide ((1<=r.source/\r.source<=99)/\1<=r.from_/\r.from_<=999999999)=true:=by simp;omega
   have d2:decide ((1<=r.source/\r.source<=99)/\1<=r.ia/\r.ia<=999999999)=true:=by simp;omega
   simp only [d1,d2,zbt,zbu,zcw];rw [zab (by simp;omega)];by_cases h0:i=0
   ·subst h0;rw [af (by simp),af (by simp),af (by simp),af (by simp),af (by simp),af (by simp),af (by simp),zab (by simp),af (by omega)];refine .inr ⟨_,rfl,λ_=>?_,rfl,?_⟩
    ·rw [e2,hx];exact hr
    ·simp only [e1,zbs,e2,hx,zbt];simp only [sC,zct hr,zcg]
   ·have hp:=hpv h0;have hgt:i > 0:=by omega
    rw [zab h0];generalize nth l (i-1).toNat=p at hp ⊢;have MF:=hp;unfold oE at MF;simp only [hgt,zgj,zcg];rw [af (λ_=>by omega),af (λ_=>by omega),af (λ_=>by omega),af (λ_=>by omega),af (λ_=>by omega),af (λ_=>by omega),af (λ_=>by omega)];by_cases cJ:zm p r
    ·have j0:=cJ;unfold zm at j0;rw [zab (by simp;omega),af (by omega)];refine .inr ⟨_,rfl,λ_=>?_,rfl,?_⟩
     ·rw [e2,hx];exact hr
     ·simp only [e1,zbs,e2,hx];simp only [sC,zct (And.intro hr cJ),zcg]
    ·have j0:=cJ;unfold zm at j0;rw [zaa (by simp;omega)];exact .inl ⟨_,rfl,by simp only [sC,zcf (λh:oE r/\zm p r=>cJ h.2),zcv]⟩
  ·have Rz:=hr;unfold oE at Rz;rw [zaa (by
    by_cases d1:(1<=r.source/\r.source<=99)/\1<=r.from_/\r.from_<=999999999
    ·by_cases d2:(1<=r.source/\r.source<=99)/\1<=r.ia/\r.ia<=999999999
     ·simp only [zct d1,zct d2,zbt,zbu,zcw,zaj];omega
     ·simp only [zct d1,zcf d2,zbt,zbu,zcb,zcw,zdv]
    ·simp only [zcf d1,zcb,zdv])]
   refine .inl ⟨_,rfl,?_⟩;by_cases h0:i=0
   ·simp [h0,sC,hr]
   ·simp [h0,sC,hr]
def hasB (l:List Range) (s n:Int):Bool:=l.any λr=>decide (r.source=s/\r.from_<=n/\n<=r.ia)
def B5 (s n:Int):Bool:=decide ((1<=s/\s<=99)/\1<=n/\n<=999999999)
theorem SB (l:List Range) (s n:Int) (hl:l.length<=100000):tA l s n=some (hasB l s n && B5 s n):=by
 unfold tA;refine bj l (λst:Int=>st) (λst t=>some (hasB t s n && B5 s n)) (λst t=>True) (by omega) ?_ ?_ rfl trivial
 ·intro i _ hi;unfold te;rw [zab (by simp only [zaj];omega)];exact ⟨_,rfl,by simp [hasB]⟩
 ·intro i r t _ jJ gC hx hlen;unfold te;rw [zaa (by simpa using gC),af ⟨jJ,gC⟩,af (λ_=>⟨jJ,gC⟩),af (λ_=>⟨jJ,gC⟩),hx];by_cases h:r.source=s/\r.from_<=n/\n<=r.ia
  ·rw [zaa (by simp [h.1,h.2.1,h.2.2])];simp only [jB,wk,zac];exact .inl ⟨_,rfl,by simp [hasB,h,B5]⟩
  ·rw [zab (by simp only [zaq,zeo,zaj];exact λhh=>h ⟨hh.1.1,hh.1.2,hh.2⟩),af (by omega)]
   refine .inr ⟨_,rfl,trivial,rfl,?_⟩;unfold hasB;rw [zcx,zcf h,zcw]
def jP (s:Int):List Range->Int
 | []=>0
 | r::t=>(if r.source=s then r.ia-r.from_+1 else 0)+jP s t
def pV (s:Int):List Head->Int
 | []=>0
 | h::t=>(if h.source=s then h.count else 0)+pV s t
def SC (l:List Range) (hs:List Head):Nat->Int->Bool
 | 0,_=>true
 | m+1,s=>decide (jP s l<=pV s hs) && SC l hs m (s+1)
theorem JD (s:Int):∀ {l:List Range},(∀ r,r∈l->oE r)->0<=jP s l/\jP s l<=l.length*1000000000
 | [],_=>by simp [jP]
 | r::l,h=>by
  have ih:=JD s (l:=l) (λx hx=>h x (zag _ hx));have hr:=h r (zah ..);unfold oE at hr;simp only [jP,zai];split <;> omega
theorem EC (s:Int):∀ {l:List Head},(∀ r,r∈l->xR r)->0<=pV s l/\pV s l<=l.length*5000
 | [],_=>by simp [pV]
 | r::l,h=>by
  have ih:=EC s (l:=l) (λx hx=>h x (zag _ hx));have hr:=h r (zah ..);unfold xR at hr;simp only [pV,zai];split <;> omega
theorem p_ct2 (v:aI) (s n:Int) (hs:1<=s/\s<=99) (hh:∀ h,h∈v.aK->xR h) (hl:v.aK.length<=100000) (hn:0<=n/\n<=100000000000000):ji v s n=some (if n-pV s v.aK > 0 then .inr false else .inl (s+1)):=by
 unfold ji;refine bj v.aK (λst:Int×Int=>st.2) (λst t=>(some (if st.1-pV s t > 0 then Sum.inr false else Sum.inl (s+1)):Option (Int ⊕ Bool))) (λst t=>(-5000*st.2<=st.1/\st.1<=100000000000000)/\∀ h,h∈t->xR h) (by omega) ?_ ?_ (s:=(n,(0:Int))) rfl ⟨by simp only;omega,hh⟩
 ·rintro ⟨k,i⟩ ⟨hb,_⟩ hi;simp only at hb hi ⊢;unfold oi lB;rw [zab (by simp only [zaj];omega)];simp only [pV,Int.sub_zero,zaj];by_cases h:k > 0
  ·rw [zaa h,zaa h];exact ⟨_,rfl,rfl⟩
  ·rw [zab h,zab h,af (by omega)];exact ⟨_,rfl,rfl⟩
 ·rintro ⟨k,i⟩ h t ⟨hb,ht⟩ jJ gC hx hlen;simp only at hb ht jJ gC hx hlen ⊢;have ho:=ht h (zah ..);unfold xR at ho;unfold oi;rw [zaa (by simpa using gC),af ⟨jJ,gC⟩,hx];by_cases he:h.source=s
  ·rw [zaa (by simpa using he),af ⟨jJ,gC⟩,af (by omega),af (by omega)];refine .inr ⟨_,rfl,⟨by simp only;omega,λx hx=>ht x (zag _ hx)⟩,rfl,?_⟩
   simp only [pV,he,zbt];rw [show k-h.count-pV s t=k-(h.count+pV s t) from by omega]
  ·rw [zab (by simpa using he),af (by omega)];refine .inr ⟨_,rfl,⟨by simp only;omega,λx hx=>ht x (zag _ hx)⟩,rfl,?_⟩
   simp only [pV,he,zbs,Int.zero_add]
theorem p_ct3 (v:aI) (s:Int) (hs:1<=s/\s<=99) (hh:∀ h,h∈v.aK->xR h) (hr:∀ r,r∈v.seen->oE r) (hl:v.aK.length<=100000) (zV:v.seen.length<=10000):loop (λst:Int×Int=>gW v s st.1 st.2) (0,0)=some (if jP s v.seen-pV s v.aK > 0 then .inr false else .inl (s+1)):=by
 refine (bj v.seen (λst:Int×Int=>st.2) (λst t=>(some (if (st.1+jP s t) - pV s v.aK > 0 then Sum.inr false else Sum.inl (s+1)):Option (Int ⊕ Bool))) (λst t=>(0<=st.1/\st.1<=st.2*1000000000)/\∀ r,r∈t->oE r) (by omega) ?_ ?_ (s:=((0:Int),(0:Int))) rfl ⟨by simp,hr⟩).trans (by simp)
 ·rintro ⟨k,i⟩ ⟨hb,_⟩ hi;simp only at hb hi ⊢;unfold gW;rw [zab (by simp only [zaj];omega),p_ct2 v s k hs hh hl (by omega)];exact ⟨_,rfl,by simp [jP]⟩
 ·rintro ⟨k,i⟩ r t ⟨hb,ht⟩ jJ gC hx hlen;simp only at hb ht jJ gC hx hlen ⊢;have ho:=ht r (zah ..);unfold oE at ho;unfold gW;rw [zaa (by simpa using gC),af ⟨jJ,gC⟩,hx];by_cases he:r.source=s
  ·rw [zaa (by simpa using he),af ⟨jJ,gC⟩,af (by omega),af ⟨jJ,gC⟩,af (by omega),af (by omega),af (by omega)];refine .inr ⟨_,rfl,⟨by simp only;omega,λx hx=>ht x (zag _ hx)⟩,rfl,?_⟩
   simp only [jP,he,zbt];rw [show k+r.ia-r.from_+1+jP s t=k+(r.ia-r.from_+1+jP s t) from by omega]
  ·rw [zab (by simpa using he),af (by omega)];refine .inr ⟨_,rfl,⟨by simp only;omega,λx hx=>ht x (zag _ hx)⟩,rfl,?_⟩
   simp only [jP,he,zbs,Int.zero_add]
theorem Nl (v:aI) (hh:∀ h,h∈v.aK->xR h) (hr:∀ r,r∈v.seen->oE r) (hl:v.aK.length<=100000) (zV:v.seen.length<=10000):o7 v=some (SC v.seen v.aK 99 1):=by
 unfold o7;refine qU (λs:Int=>some (SC v.seen v.aK (100-s).toNat s)) (λs=>1<=s/\s<=100) (λs=>(100-s).toNat) ?_ (s:=1) (by decide) (by decide);rintro s ⟨h1,h2⟩;unfold rk;by_cases hs:s<=99
 ·rw [zaa (by simpa using hs),p_ct3 v s ⟨h1,hs⟩ hh hr hl zV,show (100-s).toNat=(100-(s+1)).toNat+1 from by omega];simp only [SC];by_cases hc:jP s v.seen-pV s v.aK > 0
  ·rw [zaa hc];exact .inl ⟨_,rfl,by rw [zcf (by omega),zcv]⟩
  ·rw [zab hc];exact .inr ⟨s+1,rfl,by omega,by omega,by rw [zct (show jP s v.seen<=pV s v.aK by omega),zcg]⟩
 ·rw [zab (by simpa using hs)];have:s=100:=by omega
  subst this;exact .inl ⟨_,rfl,rfl⟩
def qI (a b:aa):Bool:=decide (a.source=b.source) && decide (a.az=b.az)
def Qg (l:List Range):List aa->List aa->Bool
 | _,[]=>true
 | d,r::t=>(hasB l r.source r.az && B5 r.source r.az) && !(d.any λx=>qI x r) && Qg l (d++[r]) t
def TK (v:aI):Bool:=Gd [] v.aK && sC none v.seen && (wi none v.open_ && Qf v.open_ v.open_) && SC v.seen v.aK 99 1 && Qg v.seen [] v.open_
structure SmI (v:aI):Prop where
 seen:v.seen.length<=1000
 aK:v.aK.length<=1000
 opens:v.open_.length<=1000
 sm:∀ r,r∈v.open_->Sm r
theorem Yb (v:aI) (i:Int) (jJ:0<=i) (gC:i<(v.open_.length:Int)) (hl:v.open_.length<=1000):loop (λs=>nI v i s) 0=some (if ((v.open_.take i.toNat).any λx=>qI x (nth v.open_ i.toNat))=true then .inr false else .inl (i+1)):=by
 have fc:(v.open_.take i.toNat).length=i.toNat:=by rw [zba];omega
 refine bj (v.open_.take i.toNat) (λs:Int=>s) (λs t=>(some (if (t.any λx=>qI x (nth v.open_ i.toNat))=true then Sum.inr false else Sum.inl (i+1)):Option (Int ⊕ Bool))) (λs t=>True) (by omega) ?_ ?_ rfl trivial
 ·intro k _ hk;unfold nI;rw [zab (by simp only [zaj];omega),af (by omega)];exact ⟨_,rfl,rfl⟩
 ·intro k x t _ RS cU hx hlen;have kq:nth v.open_ k.toNat=x:=by rw [←hx,l8 (by omega),l8 (by omega),List.getElem_take]
  unfold nI;rw [zaa (by simp only [zaj];omega),af (by omega),af (λ_=>by omega),kq];rw [zcx];by_cases h:qI x (nth v.open_ i.toNat)=true
  ·have h':=h;simp only [qI,zaq,zaj] at h';rw [zaa (by simp [h'.1,h'.2]),h,zdv];exact .inl ⟨_,rfl,rfl⟩
  ·have h':=h;simp only [qI,zaq,zaj] at h';rw [zab (by simpa using h'),af (by omega),zez.2 h,zcw];exact .inr ⟨_,rfl,trivial,rfl,rfl⟩
theorem p_rck (v:aI) (hs:SmI v):sf v=some (TK v):=by
 unfold sf TK;rw [SA v (by have:=hs.aK;omega)];simp only [zac,zgd];cases h1:Gd [] v.aK with
 | false=>simp [bH]
 | true =>
  have hh:=C9 h1;simp only [bH,zbt];rw [Ya v.seen (by have:=hs.seen;omega)];simp only [zac];cases h2:sC none v.seen with
  | false=>simp
  | true =>
   have hc:=(JC _).1 h2;simp only [zbu,zeb,zcb,zbt];rw [UA v.open_ hs.sm hs.opens];simp only [zac];cases h3:(wi none v.open_ && Qf v.open_ v.open_) with
   | false=>simp
   | true =>
    simp only [zbu,zeb,zcb,zbt];rw [Nl v hh hc.ok (by have:=hs.aK;omega) (by have:=hs.seen;omega)];simp only [zac];cases h4:SC v.seen v.aK 99 1 with
    | false=>simp
    | true =>
     simp only [zbu,zeb,zay,zbs,zcg];have hol:=hs.opens;refine (bj v.open_ (step:=λs=>nJ v s) (λs:Int=>s) (λs t=>some (Qg v.seen (v.open_.take s.toNat) t)) (λs t=>True) (by omega) (s:=0) ?_ ?_ rfl trivial)
     ·intro i _ hi;unfold nJ;rw [zab (by simp only [zaj];omega)];exact ⟨_,rfl,rfl⟩
     ·intro i r t _ jJ gC hx hlen;unfold nJ;rw [zaa (by simpa using gC),af ⟨jJ,gC⟩,hx,SB v.seen r.source r.az (by have:=hs.seen;omega)];simp only [zac,Qg];cases h5:(hasB v.seen r.source r.az && B5 r.source r.az) with
      | false =>
       rw [zaa (by rfl)];exact .inl ⟨_,rfl,by simp⟩
      | true =>
       rw [zab (by simp),Yb v i jJ gC hol,hx];cases h6:((v.open_.take i.toNat).any λx=>qI x r) with
       | true =>
        rw [zaa rfl];exact .inl ⟨_,rfl,by simp⟩
       | false =>
        rw [zab (by simp)];refine .inr ⟨_,rfl,trivial,rfl,?_⟩;rw [show (i+1).toNat=i.toNat+1 from by omega,mi (by omega),hx];simp
structure vA (v:aI):Prop where
 aK:Gd [] v.aK=true
 can:Can v.seen
 opn:Sj v.open_
 Gy:SC v.seen v.aK 99 1=true
 ids:Qg v.seen [] v.open_=true
theorem ED (v:aI):TK v=true↔vA v:=by
 unfold TK;simp only [zaq];rw [JC];constructor
 ·rintro ⟨⟨⟨⟨h1,h2⟩,h3⟩,h4⟩,h5⟩;exact ⟨h1,h2,(EA _).1 (by simpa using h3),h4,h5⟩
 ·rintro ⟨h1,h2,h3,h4,h5⟩;exact ⟨⟨⟨⟨h1,h2⟩,by simpa using (EA _).2 h3⟩,h4⟩,h5⟩
theorem Head.tn (h:Head):dO h.bJ h.bJ=true:=by simp [Head.bJ,dO,Mm]
theorem Range.tn (h:Range):dO h.bJ h.bJ=true:=by simp [Range.bJ,dO,Mm]
theorem ai.tn (h:ai):dO h.bJ h.bJ=true:=by simp [ai.bJ,dO,Mm]
theorem B6 (a:List aa) (hl:a.length<=10000):nR a a=some true:=by
 unfold nR;rw [zab (by simp),uv a (λ_=>true) true true (by omega) (λi h0 h1=>?_) (λi hi=>?_)]
 ·simp
 ·unfold rP;rw [zaa (by simpa using h1),af (by omega),af (by omega),zab (by rw [aa.tn];simp),af (by omega)];rfl
 ·unfold rP;rw [zab (by simp;omega)]
theorem SD (a:List aa) (hl:a.length<=10000):rv a a=some true:=by
 unfold rv;rw [B6 a hl];rfl
theorem SE (a:List Range) (hl:a.length<=10000):ub a a=some true:=by
 unfold ub;rw [zab (by simp),uv a (λ_=>true) true true (by omega) (λi h0 h1=>?_) (λi hi=>?_)]
 ·simp
 ·unfold rO;rw [zaa (by simpa using h1),af (by omega),af (by omega),zab (by rw [Range.tn];simp),af (by omega)];rfl
 ·unfold rO;rw [zab (by simp;omega)]
theorem SF (v:aI) (h1:v.seen.length<=10000) (h2:v.open_.length<=10000) (h3:v.aK.length<=10000):ud v v=some true:=by
 unfold ud;rw [zab (by simp),uv v.aK (λ_=>true) true true (by omega) (λi h0 h1=>?_) (λi hi=>?_)]
 ·simp
 ·unfold rQ;rw [zaa (by simpa using h1),af (by omega),af (by omega),zab (by rw [Head.tn];simp),af (by omega)];rfl
 ·unfold rQ pg;rw [zab (by simp;omega),SE _ h1,B6 _ h2];rfl
theorem AX (s:Int):∀ (k:Int) (l:List Head) (h:Head),jd s k (l++[h])=if h.source=s then h.number+1 else jd s k l
 | k,[],h=>by simp only [zcc,jd]
 | k,x::l,h=>by simp only [List.cons_append,jd];exact AX s _ l h
theorem Nn (v:aI) (s:Int) (hl:v.aK.length<=100000) (tO:∀ h,h∈v.aK->VP h):hG v s=some (if 1<=s/\s<=99 then jd s 1 v.aK else 0):=by
 unfold hG;by_cases hs:1<=s/\s<=99
 ·rw [zab (by simp;omega),zaa hs,af (by omega)];refine (qU (λi:Int=>some (jd s 1 (v.aK.take (i+1).toNat))) (λi=>-1<=i/\i<(v.aK.length:Int)) (λi=>(i+1).toNat) ?_ (s:=(v.aK.length:Int) - 1) (by omega) (by omega)).trans ?_
  ·rintro i ⟨h1,h2⟩;unfold q9;by_cases h0:i>=0
   ·have hm:nth v.aK i.toNat∈v.aK:=jO (by omega);have ho:=tO _ hm;unfold VP at ho;rw [zaa (by simpa using h0),af (by omega),show (i+1).toNat=i.toNat+1 from by omega,mi (by omega),AX];by_cases he:(nth v.aK i.toNat).source=s
    ·rw [zaa (by simpa using he),af (by omega),af (by omega),zaa he];exact .inl ⟨_,rfl,rfl⟩
    ·rw [zab (by simpa using he),af (by omega),zab he];exact .inr ⟨i-1,rfl,by omega,by omega,by rw [show i-1+1=i from by omega]⟩
   ·rw [zab (by simpa using h0)];have:i=-1:=by omega
    subst this;exact .inl ⟨_,rfl,rfl⟩
  ·rw [show ((v.aK.length:Int) - 1+1).toNat=v.aK.length from by omega,List.take_length]
 ·rw [zaa (by simp;omega),zab hs]
theorem Head.eq_iff (a b:Head):dO a.bJ b.bJ=true↔a=b:=by cases a;cases b;simp [Head.bJ,dO,Mm]
theorem aa.eq_iff (a b:aa):dO a.bJ b.bJ=true↔a=b:=by cases a;cases b;simp [aa.bJ,dO,Mm]
def No (m:List (Int×Int)) (l:List Head):Prop:=∀ s,(aC m s).getD 0=pV s l
theorem Da (s:Int):∀ (l:List Head) (h:Head),pV s (l++[h])=pV s l+(if h.source=s then h.count else 0)
 | [],h=>by simp [pV]
 | x::l,h=>by simp only [List.cons_append,pV,Da s l h];omega
theorem No.step {m:List (Int×Int)} {l:List Head} (h:No m l) (x:Head):No (c8 m x.source ((aC m x.source).getD 0+x.count)) (l++[x]):=λs=>by
 rw [dW,Da];by_cases he:x.source=s
 ·rw [zaa (by simpa using he.symm),zaa he,zcq,h x.source,he]
 ·rw [zab (by simpa using λe:s=x.source=>he e.symm),zab he,h s];omega
theorem headC {x:Head} {d:List Head} {y:Int} (hy:y=if 1<=x.source/\x.source<=99 then jd x.source 1 d else 0) (hn:1<=jd x.source 1 d):((((((((!(dO (Head.bJ x) (Head.bJ (⟨x.source,y,x.format,x.count⟩:Head)))) || (decide (x.source<1))) || (decide (x.source > 99))) || (decide (x.format<1))) || (decide (x.format>=4))) || (decide (x.count<0))) || (decide (x.count > 4096))) || (decide (x.number > 999999999)))=!decide (xR x/\x.number=jd x.source 1 d):=by
 have e:dO (Head.bJ x) (Head.bJ (⟨x.source,y,x.format,x.count⟩:Head))=decide (x.number=y):=by
  rw [zbo,Head.eq_iff,zbr];cases x;simp
 rw [e,zbo];unfold xR;simp only [zbx,zdk,zcy,zaj];by_cases hs:1<=x.source/\x.source<=99
 ·rw [zaa hs] at hy;subst hy;omega
 ·omega
theorem H5 (s:Int):∀ {k:Int} {l:List Head},1<=k->(∀ h,h∈l->xR h)->1<=jd s k l
 | k,[],hk,_=>hk
 | k,x::l,hk,h=>by
  have:=h x (zah ..);unfold xR at this;simp only [jd];exact H5 s (by split <;> omega) (λy hy=>h y (zag _ hy))
theorem UD (l:List Head) (i:Int) (h0:0<=i) (h1:i<=(l.length:Int)) (s:Int) (hl:l.length<=100000) (tO:∀ h,h∈l.take i.toNat->xR h):hG (⟨([]:List Range),([]:List aa),l.take i.toNat⟩:aI) s=some (if 1<=s/\s<=99 then jd s 1 (l.take i.toNat) else 0) :=
 Nn _ s (by simp only [zba];omega) (λh hh=>EB (tO h hh))
theorem B7 {S R:Type} {step:S->Option (S ⊕ R)} {n:Nat} {s s':S} (h:step s=some (.inl s')):iter step (n+1) s=iter step n s':=by simp [iter,h]
theorem sD {S R:Type} {step:S->Option (S ⊕ R)} {n:Nat} {s:S} {r:R} (h:step s=some (.inr r)):iter step (n+1) s=some r:=by simp [iter,h]
theorem Qh {S R:Type} {step:S->Option (S ⊕ R)} {n:Nat} {s:S} (h:step s=none):iter step (n+1) s=none:=by simp [iter,h]
theorem UE (l:List Head) (hl:l.length<=100000):(Gd [] l=true->∃ m,jx l=some m/\No m l)/\(Gd [] l=false->jx l=none/\mT l=some ()):=by
 have key:∀ (t:List Head) (n:Nat) (i:Int) (m:List (Int×Int)),t.length<=n->0<=i->i<=(l.length:Int)->l.drop i.toNat=t->(∀ h,h∈l.take i.toNat->xR h)->No m (l.take i.toNat) ->
   (Gd (l.take i.toNat) t=true->∃ m',iter (λs=>db l s.1 s.2) (n+1) (i,m)=some m'/\No m' l)/\(Gd (l.take i.toNat) t=false->iter (λs=>db l s.1 s.2) (n+1) (i,m)=none/\iter (λs=>dx l s.1 s.2) (n+1) (i,m)=some ()):=by
  intro t
  induction t with
  | nil =>
   intro n i m hn h0 h1 hd tO hm;have hlen:l.length<=i.toNat:=by
    have:=zbq List.length hd;rw [zbg] at this;simp only [zbh] at this;omega
   refine ⟨λ_=>⟨m,?_,?_⟩,λh=>by simp [Gd] at h⟩
   ·refine sD ?_;show db l i m=_;unfold db;rw [zab (by simp only [zaj];omega)]
   ·rwa [zbw hlen] at hm
  | cons x t ih =>
   intro n i m hn h0 h1 hd tO hm;have hlen:i.toNat<l.length:=by
    have:=zbq List.length hd;rw [zbg] at this;simp only [zai] at this;omega
   have hx:nth l i.toNat=x:=by
    have:=p7 (l:=l) (k:=i.toNat) hlen;rw [hd] at this;exact (List.cons.inj this).1.symm
   have Wi:l.drop (i+1).toNat=t:=by
    have:=p7 (l:=l) (k:=i.toNat) hlen;rw [hd] at this;rw [show (i+1).toNat=i.toNat+1 from by omega];exact (List.cons.inj this).2.symm
   have hc:=headC (x:=x) (d:=l.take i.toNat) rfl (H5 _ (by omega) tO);by_cases hq:xR x/\x.number=jd x.source 1 (l.take i.toNat)
   ·have hq1:=hq.1;have hb:=EC x.source tO;rw [zba] at hb;unfold xR at hq1;have xG:l.take (i+1).toNat=l.take i.toNat++[x]:=by rw [show (i+1).toNat=i.toNat+1 from by omega,mi hlen,hx]
    have hok':∀ h,h∈l.take (i+1).toNat->xR h:=by
     rw [xG];intro y hy;rcases zbb.1 hy with hy|hy
     ·exact tO y hy
     ·simp at hy;subst hy;exact hq.1
    have uE:=hm.step x;rw [←xG] at uE;have Ho:=hm x.source;obtain ⟨n,rfl⟩:∃ k,n=k+1:=⟨n-1,by simp only [zai] at hn;omega⟩;have:=ih n (i+1) _ (by simp only [zai] at hn;omega) (by omega) (by omega) Wi hok' uE;have e1:db l i m=some (.inl (i+1,c8 m x.source ((aC m x.source).getD 0+x.count))):=by
     unfold db;rw [zaa (by simp only [zaj];omega),af (by omega),af (by omega),hx,UD l i h0 h1 _ hl tO];simp only [zac];rw [hc,zab (by simp [hq]),af (by omega),af (by omega)]
    have e2:dx l i m=some (.inl (i+1,c8 m x.source ((aC m x.source).getD 0+x.count))):=by
     unfold dx;rw [zaa (by simp only [zaj];omega),af (by omega),af (by omega),hx,UD l i h0 h1 _ hl tO];simp only [zac];rw [hc,zab (by simp [hq]),af (by omega),af (by omega)]
    rw [B7 (step:=λs:Int×List (Int×Int)=>db l s.1 s.2) (s:=(i,m)) e1,B7 (step:=λs:Int×List (Int×Int)=>dx l s.1 s.2) (s:=(i,m)) e2];simp only [Gd,zct hq,zcg];rw [←xG];exact this
   ·simp only [Gd,zcf hq,zcv];refine ⟨λh=>(zdy h).elim,λ_=>?_⟩;have e1:db l i m=none:=by
     unfold db;rw [zaa (by simp only [zaj];omega),af (by omega),af (by omega),hx,UD l i h0 h1 _ hl tO];simp only [zac];rw [hc,zaa (by simp [hq])]
    have e2:dx l i m=some (.inr ()):=by
     unfold dx;rw [zaa (by simp only [zaj];omega),af (by omega),af (by omega),hx,UD l i h0 h1 _ hl tO];simp only [zac];rw [hc,zaa (by simp [hq])]
    exact ⟨Qh (step:=λs:Int×List (Int×Int)=>db l s.1 s.2) (s:=(i,m)) e1,sD (step:=λs:Int×List (Int×Int)=>dx l s.1 s.2) (s:=(i,m)) e2⟩
 have:=key l 18446744073709551615 0 [] (by omega) (by omega) (by omega) rfl (by simp) (λs=>by simp [vK,pV]);exact this
theorem half {i j:Int} (h0:0<=i) (h1:i<=1000000) (h2:0<=j) (h3:j<=1000000):IntKind.wrap .i64 (Int.fdiv (IntKind.wrap .u64 (i+j)) (2 ^ (min (Int.toNat (1)) 64)))=(i+j) / 2:=by
 have e1:IntKind.wrap .u64 (i+j)=i+j:=by
  have:IntKind.wrap .u64 (i+j)=(i+j) % 18446744073709551616:=rfl;rw [this];omega
 have e2:Int.fdiv (i+j) (2 ^ (min (Int.toNat (1)) 64))=(i+j) / 2:=by
  rw [Int.fdiv_eq_ediv_of_nonneg _ (by decide)];rfl
 rw [e1,e2];exact Wk (by omega) (by omega)
def PL (s n:Int) (r:Range):Prop:=r.source > s∨(r.source=s/\r.ia>=n)
instance (s n:Int) (r:Range):Decidable (PL s n r):=by unfold PL;infer_instance
theorem EE {s n:Int} {a b:Range} (h:zm a b) (hb:oE b) (hp:PL s n a):PL s n b:=by
 unfold PL zm oE at *;omega
def zn (s n:Int) (l:List Range):Nat:=(l.takeWhile λr=>!decide (PL s n r)).length
theorem Np (s n:Int) (l:List Range):zn s n l<=l.length:=(List.takeWhile_sublist _).length_le
theorem yJ (s n:Int) (r:Range) (l:List Range):zn s n (r::l)=if PL s n r then 0 else zn s n l+1:=by
 unfold zn;rw [List.takeWhile_cons];by_cases h:PL s n r <;> simp [h]
theorem Lp (s n:Int):∀ {l:List Range} {k:Nat},k<=l.length->(∀ j,j<k->¬PL s n (nth l j))->(k<l.length->PL s n (nth l k))->zn s n l=k
 | [],k,hk,_,_=>by simp at hk;subst hk;rfl
 | r::l,0,_,_,h=>by
  rw [yJ,zaa];have:=h (by simp)
  rwa [fp] at this
 | r::l,k+1,hk,h1,h2=>by
  have:=h1 0 (by omega);rw [fp] at this;rw [yJ,zab this,Lp s n (k:=k) (by simpa using hk) (λj hj=>by
   have:=h1 (j+1) (by omega)
   rwa [eU] at this) (λhk=>by
   have:=h2 (by simpa using hk)
   rwa [eU] at this)]
theorem Can.mono {l:List Range} (h:Can l) {s n:Int} {i j:Nat} (N0:i<=j) (hj:j<l.length) (hp:PL s n (nth l i)):PL s n (nth l j):=by
 by_cases e:i=j
 ·subst e;exact hp
 ·have:=List.pairwise_iff_getElem.1 h.HY i j (by omega) hj (by omega);rw [←l8,←l8] at this;exact EE this (h.ok _ (jO hj)) hp
theorem Ge (l:List Range) (s n:Int) (hc:Can l) (hl:l.length<=100000):kz (l.length:Int) l s n=some (zn s n l:Int):=by
 unfold kz;obtain ⟨r,h1,h2⟩:=qV (step:=λst:Int×Int=>jf l s n st.1 st.2) (λr=>r=(zn s n l:Int)) (λst:Int×Int=>0<=st.1/\st.1<=st.2/\st.2<=(l.length:Int)/\(∀ k:Nat,(k:Int)<st.1->¬PL s n (nth l k))/\(st.2<(l.length:Int)->PL s n (nth l st.2.toNat))) (λst=>(st.2-st.1).toNat) (by
  rintro ⟨i,j⟩ ⟨a0,a1,a2,a3,a4⟩;simp only at a0 a1 a2 a3 a4 ⊢;unfold jf jX;by_cases h:i<j
  ·rw [zaa (by simpa using h),af (by omega),af (by omega),half a0 (by omega) (by omega) (by omega),af (by omega)];simp only [zac];have e:((decide ((nth l ((i+j) / 2).toNat).source > s)) || ((((nth l ((i+j) / 2).toNat).source)==s) && (decide (((nth l ((i+j) / 2).toNat).ia)>=n))))=decide (PL s n (nth l ((i+j) / 2).toNat)):=by
    rw [zbo];unfold PL;simp
   rw [e];by_cases hp:PL s n (nth l ((i+j) / 2).toNat)
   ·rw [zab (by simp [hp])];exact .inr ⟨_,rfl,⟨by omega,by simp only;omega,by simp only;omega,a3,λ_=>hp⟩,by simp only;omega⟩
   ·rw [zaa (by simp [hp]),af (by omega)];refine .inr ⟨_,rfl,⟨by simp only;omega,by simp only;omega,a2,λk hk hpk=>hp (hc.mono (i:=k) (by simp only at hk;omega) (by omega) hpk),a4⟩,by simp only;omega⟩
  ·rw [zab (by simpa using h)];refine .inl ⟨_,rfl,?_⟩;have e:j=i:=by omega
   subst e;have:=Lp s n (l:=l) (k:=j.toNat) (by omega) (λk hk=>a3 k (by omega)) (λhk=>a4 (by omega));omega) (s:=((0:Int),(l.length:Int))) ⟨by simp,by simp,by simp,λk hk=>by simp only at hk;omega,λh=>by simp at h⟩ (by simp only;omega)
 rw [h1,h2]
theorem UF {l:List Range} (hc:Can l) (s n:Int):hasB l s n=(decide (zn s n l<l.length) && (decide ((nth l (zn s n l)).source=s) && decide ((nth l (zn s n l)).from_<=n))):=by
 induction l with
 | nil=>rfl
 | cons r l ih =>
  have hs:=zax.1 hc.HY;have sF:Can l:=⟨λx hx=>hc.ok x (zag _ hx),hs.2⟩;rw [yJ];by_cases hp:PL s n r
  ·rw [zaa hp,fp];have hr:=hc.ok r (zah ..);unfold hasB;rw [zcx];by_cases hh:r.source=s/\r.from_<=n
   ·have:n<=r.ia:=by unfold PL at hp;omega
    simp [hh.1,hh.2,this]
   ·have h1:decide (r.source=s/\r.from_<=n/\n<=r.ia)=false:=zcf (λh=>hh ⟨h.1,h.2.1⟩);have h2:(l.any λr=>decide (r.source=s/\r.from_<=n/\n<=r.ia))=false:=by
     rw [zfa];intro x hx hx2;have hx2:=zcs hx2;have h3:=hs.1 x hx;unfold PL zm oE at *;omega
    rw [h1,h2,zdl];have:(decide (r.source=s) && decide (r.from_<=n))=false:=by
     rw [←Bool.decide_and];exact zcf hh
    rw [this,Bool.and_false]
  ·rw [zab hp,eU];have:hasB (r::l) s n=hasB l s n:=by
    unfold hasB;rw [zcx,zcf (by unfold PL at hp;omega),zcw]
   rw [this,ih sF];simp
theorem SG (l:List Range) (s n:Int) (hc:Can l) (hl:l.length<=100000):nn l s n=some (hasB l s n && B5 s n):=by
 unfold nn oV;rw [Ge l s n hc hl];have hle:=Np s n l;simp only [zac,dI,wk];rw [af (λh=>by simp at h;omega),af (λh=>by simp at h;omega),UF hc];congr 1;unfold B5;rw [show ((zn s n l:Nat):Int).toNat=zn s n l from by omega];have e:decide (((zn s n l:Nat):Int)<(l.length:Int))=decide (zn s n l<l.length):=by
  rw [zbo,zbr,zbr];omega
 rw [e];generalize decide ((1<=s/\s<=99)/\1<=n/\n<=999999999)=b1;generalize decide (zn s n l<l.length)=b2;rw [show ((nth l (zn s n l)).source==s)=decide ((nth l (zn s n l)).source=s) from rfl];generalize decide ((nth l (zn s n l)).source=s)=b3;generalize decide ((nth l (zn s n l)).from_<=n)=b4;cases b1 <;> cases b2 <;> cases b3 <;> cases b4 <;> rfl
theorem SH (l:List Range) (hl:l.length<=100000):mD l=some (sC none l):=by
 unfold mD;have:=bj l (step:=λs=>lA l s) (λs:Int=>s) (λs t=>some (sC (if s=0 then none else some (nth l (s-1).toNat)) t)) (λs t=>s≠0->oE (nth l (s-1).toNat)) (by omega) (s:=0) ?_ ?_ rfl (by simp)
 ·exact this
 ·intro i _ hi;unfold lA;rw [zab (by simp only [zaj];omega)];exact ⟨_,rfl,by simp [sC]⟩
 ·intro i r t hpv jJ gC hx hlen;unfold lA;rw [zaa (by simpa using gC),af ⟨jJ,gC⟩,hx];simp only [dI,wk,zac,zgd,dR];have e1:(i+1=0)=False:=by simp;omega
  have e2:(i+1-1).toNat=i.toNat:=by omega
  by_cases hr:oE r
  ·have Rz:=hr;unfold oE at Rz;have d1:decide ((1<=r.source/\r.source<=99)/\1<=r.from_/\r.from_<=999999999)=true:=by simp;omega
   have d2:decide ((1<=r.source/\r.source<=99)/\1<=r.ia/\r.ia<=999999999)=true:=by simp;omega
   simp only [d1,d2,zbt,zbu,zcw];rw [zab (by simp;omega)];by_cases h0:i=0
   ·subst h0;rw [zab (by simp),af (by omega)];refine .inr ⟨_,rfl,λ_=>?_,rfl,?_⟩
    ·rw [e2,hx];exact hr
    ·simp only [e1,zbs,e2,hx,zbt];simp only [sC,zct hr,zcg]
   ·have hp:=hpv h0;have hgt:i > 0:=by omega
    rw [zab h0];rw [zaa (by simpa using hgt),af (by omega),af (by omega)];generalize nth l (i-1).toNat=p at hp ⊢;have MF:=hp;unfold oE at MF;rw [af (λ_=>by omega)];by_cases cJ:zm p r
    ·have j0:=cJ;unfold zm at j0;rw [zab (by simp;omega),af (by omega)];refine .inr ⟨_,rfl,λ_=>?_,rfl,?_⟩
     ·rw [e2,hx];exact hr
     ·simp only [e1,zbs,e2,hx];simp only [sC,zct (And.intro hr cJ),zcg]
    ·have j0:=cJ;unfold zm at j0;rw [zaa (by simp;omega)];exact .inl ⟨_,rfl,by simp only [sC,zcf (λh:oE r/\zm p r=>cJ h.2),zcv]⟩
  ·have Rz:=hr;unfold oE at Rz;rw [zaa (by
    by_cases d1:(1<=r.source/\r.source<=99)/\1<=r.from_/\r.from_<=999999999
    ·by_cases d2:(1<=r.source/\r.source<=99)/\1<=r.ia/\r.ia<=999999999
     ·simp only [zct d1,zct d2,zbt,zbu,zcw,zaj];omega
     ·simp only [zct d1,zcf d2,zbt,zbu,zcb,zcw,zdv]
    ·simp only [zcf d1,zcb,zdv])]
   refine .inl ⟨_,rfl,?_⟩;by_cases h0:i=0
   ·simp [h0,sC,hr]
   ·simp [h0,sC,hr]
theorem Lq {x r:aa} {n:Int} {l:List aa} (hc:bZ r x=true/\r.part=n) (hl:r.last=true):kG true x n (r::l)=([r],l):=by
 rw [kG,zaa hc,zaa ⟨rfl,hl⟩]
theorem Lr {x r:aa} {n:Int} {l:List aa} (hc:bZ r x=true/\r.part=n) (hl:¬r.last=true):kG true x n (r::l)=(r::(kG true x (n+1) l).1,(kG true x (n+1) l).2):=by
 rw [kG,zaa hc,zab (λh=>hl h.2)]
theorem Ls {x r:aa} {n:Int} {l:List aa} (hc:¬(bZ r x=true/\r.part=n)):kG true x n (r::l)=((kG true x n l).1,r::(kG true x n l).2):=by
 rw [kG,zab hc]
theorem Gf {x:aa}:∀ {n:Int} {pre:List aa} (post:List aa),(kG true x n pre).1.getLast?.map (·.last)=some true->(kG true x n (pre++post)).1=(kG true x n pre).1
 | n,[],post,h=>by simp [kG] at h
 | n,r::l,post,h=>by
  rw [List.cons_append];by_cases hc:bZ r x=true/\r.part=n
  ·by_cases hl:r.last=true
   ·rw [Lq hc hl,Lq hc hl]
   ·rw [Lr hc hl] at h ⊢;rw [Lr hc hl];simp only at h ⊢;have fi:(kG true x (n+1) l).1≠[]:=by
     intro e;rw [e] at h;simp at h;exact hl h
    have h':(kG true x (n+1) l).1.getLast?.map (·.last)=some true:=by
     rw [←h];cases A2:(kG true x (n+1) l).1 with
     | nil=>exact absurd A2 fi
     | cons y t=>simp [List.getLast?_cons_cons]
    rw [Gf post h']
  ·rw [Ls hc] at h ⊢;rw [Ls hc];exact Gf post h
theorem Yc {pre post:List aa} (h:∀ x,jG (kG true x 1 (pre++post)).1=none) (x:aa):jG (kG true x 1 pre).1=none:=by
 cases hc:jG (kG true x 1 pre).1 with
 | none=>rfl
 | some w =>
  have:=Gf post (Lh hc).2;have h2:=h x;rw [this,hc] at h2;cases h2
theorem Lu:∀ {l:List aa} {p:aa},(∀ y,y∈l->Le y p)->pn l p=l++[p]
 | [],p,_=>rfl
 | y::l,p,h=>by
  have h1:=h y (zah ..);unfold Le at h1;unfold pn;rw [zab h1,Lu (λz hz=>h z (zag _ hz)),List.cons_append]
theorem Lv {l:List aa} (h:Sj l):∀ (post pre:List aa),pre++post=l->eX pre post=([],l)
 | [],pre,e=>by rw [←e,zbn];rfl
 | r::post,pre,e=>by
  have hr:=h.ok r (by rw [←e];simp);have hs:P8 (pre++r::post):=by rw [e];exact h.HY
  have hle:∀ y,y∈pre->Le y r:=λy hy=>(zea.1 hs).2.2 y hy r (zah ..)
  have e':(pre++[r])++post=l:=by rw [←e];simp
  have DS:jG (kG true r 1 (pre++[r])).1=none:=Yc (post:=post) (by rw [e'];exact h.nc) r;have mA:jH pre r=([],pre++[r]):=by
   unfold jH;rw [zab hr.2,Lu hle];show hC (pre.length+1+1) (pre++[r]) r=_;unfold hC;rw [DS]
  unfold eX;rw [mA,Lv h post (pre++[r]) e'];rfl
theorem OD:Sj []:=⟨List.Pairwise.nil,by simp,λx=>by simp [kG,AW]⟩
theorem Qi {l:List aa} (hv:∀ r,r∈l->cW r=0):(eX [] l).1=[]/\(eX [] l).2=l↔Sj l:=by
 constructor
 ·rintro ⟨_,h2⟩;have:=C5 OD hv
  rwa [h2] at this
 ·intro h;rw [Lv h l [] rfl];exact ⟨rfl,rfl⟩
instance:DecidableEq aa:=λa b=>decidable_of_iff _ (aa.eq_iff a b)
theorem H6:∀ (now l:List aa),(eX now l).2.length<=now.length+l.length
 | now,[]=>by simp [eX]
 | now,r::l=>by
  have h1:=C8 now r;have h2:=H6 (jH now r).2 l;simp only [eX,zai];omega
theorem UG (a b:List aa) (hl:a.length<=100000):qm a b=some (decide (a=b)):=by
 unfold qm;by_cases he:a.length=b.length
 ·rw [zab (by simp [he])];refine (bj a (λs:Int=>s) (λs t=>some (decide (t=b.drop s.toNat))) (λs t=>t.length=(b.drop s.toNat).length) (by omega) ?_ ?_ (s:=0) rfl (by simpa using he)).trans (by simp)
  ·intro i hh hi;unfold pz;rw [zab (by simp only [zaj];omega)];refine ⟨_,rfl,?_⟩;have:b.drop i.toNat=[]:=by
    apply zbc;rw [←hh];rfl
   rw [this];simp
  ·intro i r t hh jJ gC hx hlen;unfold pz;rw [zaa (by simpa using gC),af ⟨jJ,gC⟩,af (by omega),hx,p7 (l:=b) (k:=i.toNat) (by omega)];by_cases hq:r=nth b i.toNat
   ·rw [zab (by rw [(aa.eq_iff _ _).2 hq];simp),af (by omega)];refine .inr ⟨_,rfl,?_,rfl,?_⟩
    ·rw [show (i+1).toNat=i.toNat+1 from by omega,zbg];omega
    ·rw [show (i+1).toNat=i.toNat+1 from by omega];congr 1;rw [zbo,zbr,zbr];simp [hq]
   ·have:dO r.bJ (nth b i.toNat).bJ=false:=by
     cases h:dO r.bJ (nth b i.toNat).bJ with
     | false=>rfl
     | true=>exact absurd ((aa.eq_iff _ _).1 h) hq
    rw [zaa (by rw [this];rfl)];refine .inl ⟨_,rfl,?_⟩;congr 1;rw [zcy];intro h;exact hq (List.cons.inj h).1
 ·rw [zaa (by simpa using λh=>he (by omega))];congr 1
  symm
  rw [zcy];intro h;exact he (by rw [h])
def VQ (l:List Range):List aa->List aa->Bool
 | _,[]=>true
 | d,r::t=>(okB r && !(d.any λx=>qI x r) && (hasB l r.source r.az && B5 r.source r.az)) && VQ l (d++[r]) t
theorem SI (l:List Range):∀ (t d:List aa),VQ l d t=(t.all okB && Qg l d t)
 | [],d=>rfl
 | r::t,d=>by
  simp only [VQ,Qg,zei,SI l t];generalize okB r=b1;generalize (d.any λx=>qI x r)=b2;generalize (hasB l r.source r.az && B5 r.source r.az)=b3;generalize t.all okB=b4;generalize Qg l (d++[r]) t=b5;revert b1 b2 b3 b4 b5;decide
def UH (m:List (bo×Bool)) (l:List aa):Prop:=∀ s n,(aC m (⟨s,n⟩:bo)).getD false=l.any λx=>decide (x.source=s) && decide (x.az=n)
theorem UH.step {m:List (bo×Bool)} {l:List aa} (h:UH m l) (x:aa):UH (c8 m (⟨x.source,x.az⟩:bo) true) (l++[x]):=λs n=>by
 rw [dW,List.any_append,zcx,zfe,zdl,←h s n];by_cases he:x.source=s/\x.az=n
 ·rw [zaa (by rw [he.1,he.2];simp),zcq,he.1,he.2];simp
 ·rw [zab (by
   intro e;have:=eq_of_beq e;injection this with e1 e2;exact he ⟨e1.symm,e2.symm⟩)]
  have:(decide (x.source=s) && decide (x.az=n))=false:=by rw [←Bool.decide_and];exact zcf he
  rw [this,zdl]
theorem SJ (v:aI) (m:List (bo×Bool)) (hl:v.open_.length<=1000) (hv:∀ r,r∈v.open_->okB r=true):jh v m=some (wi none v.open_ && Qf v.open_ v.open_):=by
 unfold jh;have GG:∀ r,r∈v.open_->cW r=0:=λr hr=>by
  have:=hv r hr;simp only [okB,zaq,zaj] at this;exact this.2
 rw [Sz [] v.open_ OD.wt GG (by simpa using hl)];simp only [zac];have hj:=H6 [] v.open_;rw [UG _ _ (by simp at hj;omega),dR];simp only [zac];congr 1;rw [zbo,EA,←Qi GG];cases h1:(eX [] v.open_).1 with
 | nil=>simp
 | cons y t=>simp;omega
theorem UI (v:aI) (hs:SmI v) (hc:Can v.seen):mE v=some (VQ v.seen [] v.open_ && (wi none v.open_ && Qf v.open_ v.open_)):=by
 unfold mE;have hol:=hs.opens;have QB:=hs.seen;refine (bj v.open_ (λst:Int×List (bo×Bool)=>st.1) (λst t=>some (VQ v.seen (v.open_.take st.1.toNat) t && (wi none v.open_ && Qf v.open_ v.open_))) (λst t=>UH st.2 (v.open_.take st.1.toNat)/\∀ r,r∈v.open_.take st.1.toNat->okB r=true) (by omega) ?_ ?_ (s:=((0:Int),([]:List (bo×Bool)))) rfl ⟨λs n=>by simp [vK],by simp⟩).trans (by simp)
 ·rintro ⟨i,m⟩ ⟨_,hh⟩ hi;simp only at hh hi ⊢;rw [zbw (by omega)] at hh;unfold oh;rw [zab (by simp only [zaj];omega),SJ v m hol hh];exact ⟨_,rfl,by simp [VQ]⟩
 ·rintro ⟨i,m⟩ r t ⟨hm,hh⟩ jJ gC hx hlen;simp only at hm hh jJ gC hx hlen ⊢;have hrm:r∈v.open_:=by rw [←hx];exact jO (by omega)
  unfold oh;rw [zaa (by simpa using gC),af ⟨jJ,gC⟩,hx,zl r (hs.sm r hrm),dR];simp only [zac];rw [SG v.seen _ _ hc (by omega),dR,hm];simp only [zac];have e:(((((r.part==0) || ((if (!(r.part==0))=true then cW r else default) != 0)) || ((v.open_.take i.toNat).any λx=>decide (x.source=r.source) && decide (x.az=r.az))) || (!(if (!(((r.part==0) || ((if (!(r.part==0))=true then cW r else default) != 0)) || ((v.open_.take i.toNat).any λx=>decide (x.source=r.source) && decide (x.az=r.az))))=true then (hasB v.seen r.source r.az && B5 r.source r.az) else default))))=!(okB r && !((v.open_.take i.toNat).any λx=>qI x r) && (hasB v.seen r.source r.az && B5 r.source r.az)):=by
   have e1:((v.open_.take i.toNat).any λx=>qI x r)=((v.open_.take i.toNat).any λx=>decide (x.source=r.source) && decide (x.az=r.az)):=rfl;rw [e1];generalize ((v.open_.take i.toNat).any λx=>decide (x.source=r.source) && decide (x.az=r.az))=b2;generalize (hasB v.seen r.source r.az && B5 r.source r.az)=b3;unfold okB;by_cases h1:r.part=0
   ·simp [h1]
   ·by_cases h2:cW r=0
    ·simp [h1,h2];cases b2 <;> cases b3 <;> simp
    ·simp [h1,h2]
  rw [e];have xG:v.open_.take (i+1).toNat=v.open_.take i.toNat++[r]:=by rw [show (i+1).toNat=i.toNat+1 from by omega,mi (by omega),hx]
  cases hb:(okB r && !((v.open_.take i.toNat).any λx=>qI x r) && (hasB v.seen r.source r.az && B5 r.source r.az)) with
  | false =>
   rw [zaa (by simp)];exact .inl ⟨_,rfl,by simp only [VQ,hb,zcv]⟩
  | true =>
   rw [zab (by simp),af (by omega)];refine .inr ⟨_,rfl,⟨?_,?_⟩,rfl,?_⟩
   ·simp only;rw [xG];exact hm.step r
   ·simp only;rw [xG];intro y hy;rcases zbb.1 hy with hy|hy
    ·exact hh y hy
    ·simp at hy;subst hy;simp only [zaq] at hb;exact hb.1.1
   ·simp only;rw [xG];simp only [VQ,hb,zcg]
def TM (hs:List Head):List Range->List Range->Bool
 | _,[]=>true
 | d,r::t=>decide (jP r.source (d++[r])<=pV r.source hs) && TM hs (d++[r]) t
theorem B8 (s:Int):∀ (a b:List Range),jP s (a++b)=jP s a+jP s b
 | [],b=>by simp [jP]
 | r::a,b=>by simp only [List.cons_append,jP,B8 s a b];omega
theorem EF (l:List Range) (hs:List Head):∀ (m:Nat) (s:Int),SC l hs m s=true↔∀ k:Int,s<=k->k<s+m->jP k l<=pV k hs
 | 0,s=>by simp only [SC,true_iff];intro k h1 h2;omega
 | m+1,s=>by
  rw [SC,zaq,zbr,EF l hs m (s+1)];constructor
  ·rintro ⟨h1,h2⟩ k h3 h4;by_cases e:k=s
   ·subst e;exact h1
   ·exact h2 k (by omega) (by omega)
  ·intro h;exact ⟨h s (by omega) (by omega),λk h3 h4=>h k (by omega) (by omega)⟩
theorem SK (hs:List Head):∀ {t d:List Range},(∀ r,r∈t->oE r)->(∀ s,jP s (d++t)<=pV s hs)->TM hs d t=true
 | [],d,_,_=>rfl
 | r::t,d,hk,h=>by
  have Qy:∀ r,r∈t->oE r:=λx hx=>hk x (zag _ hx)
  have e:(d++[r])++t=d++r::t:=by simp
  rw [TM,SK hs Qy (by rw [e];exact h),zeu,zbr];have h1:=h r.source;rw [←e,B8] at h1;have:=(JD r.source Qy).1;omega
theorem SL (hs:List Head):∀ {t d:List Range},TM hs d t=true->(∀ s,jP s d<=pV s hs)->∀ s,jP s (d++t)<=pV s hs
 | [],d,_,h,s=>by rw [zbn];exact h s
 | r::t,d,hp,h,s=>by
  rw [TM,zaq,zbr] at hp;have e:(d++[r])++t=d++r::t:=by simp
  rw [←e];refine SL hs hp.2 (λk=>?_) s;by_cases he:r.source=k
  ·subst he;exact hp.1
  ·rw [B8];simp only [jP,zab he];have:=h k;omega
theorem Lw {s:Int} (hs:¬(1<=s/\s<=99)):∀ {l:List Range},(∀ r,r∈l->oE r)->jP s l=0
 | [],_=>rfl
 | r::l,h=>by
  have:=h r (zah ..);unfold oE at this;rw [jP,zab (by omega),Lw hs (λx hx=>h x (zag _ hx))];rfl
theorem UJ {l:List Range} {hs:List Head} (hl:∀ r,r∈l->oE r) (hh:∀ h,h∈hs->xR h):TM hs [] l=SC l hs 99 1:=by
 rw [zbo,EF];constructor
 ·intro h k _ _;have:=SL hs h (λs=>by rw [jP];exact (EC s hh).1) k;simpa using this
 ·intro h;refine SK hs hl (λs=>?_);rw [zcc];by_cases tv:1<=s/\s<=99
  ·exact h s tv.1 (by omega)
  ·rw [Lw tv hl];exact (EC s hh).1
def OE (m:List (Int×Int)) (l:List Range):Prop:=∀ s,(aC m s).getD 0=jP s l
theorem OE.step {m:List (Int×Int)} {l:List Range} (h:OE m l) (x:Range):OE (c8 m x.source ((aC m x.source).getD 0+((x.ia-x.from_)+1))) (l++[x]):=λs=>by
 rw [dW,B8];simp only [jP];by_cases he:x.source=s
 ·rw [zaa (by simpa using he.symm),zaa he,zcq,h x.source,he];omega
 ·rw [zab (by simpa using λe:s=x.source=>he e.symm),zab he,h s];omega
theorem p_cnt (v:aI) (m:List (Int×Int)) (hm:No m v.aK) (tO:∀ r,r∈v.seen->oE r) (hl:v.seen.length<=1000):loop (λs:Int×List (Int×Int)=>kg v m s.1 s.2) (0,([]:List (Int×Int)))=some (TM v.aK [] v.seen):=by
 refine (bj v.seen (λst:Int×List (Int×Int)=>st.1) (λst t=>some (TM v.aK (v.seen.take st.1.toNat) t)) (λst t=>OE st.2 (v.seen.take st.1.toNat)) (by omega) ?_ ?_ (s:=((0:Int),([]:List (Int×Int)))) rfl (λs=>by simp [vK,jP])).trans (by simp)
 ·rintro ⟨i,e⟩ _ hi;simp only at hi ⊢;unfold kg;rw [zab (by simp only [zaj];omega)];exact ⟨_,rfl,rfl⟩
 ·rintro ⟨i,e⟩ r t he jJ gC hx hlen;simp only at he jJ gC hx hlen ⊢;have hr:=tO r (by rw [←hx];exact jO (by omega));unfold oE at hr;have hb:=JD r.source (l:=v.seen.take i.toNat) (λx hx=>tO x (zen hx));rw [zba] at hb;have hs:=he r.source;have xG:v.seen.take (i+1).toNat=v.seen.take i.toNat++[r]:=by rw [show (i+1).toNat=i.toNat+1 from by omega,mi (by omega),hx]
  have mA:=he.step r;unfold kg;rw [zaa (by simpa using gC),af ⟨jJ,gC⟩,hx,af (by omega),af (by omega),af (by omega),mA r.source,hm r.source];by_cases hc:jP r.source (v.seen.take i.toNat++[r])<=pV r.source v.aK
  ·rw [zab (by simp only [zaj];omega),af (by omega)];refine .inr ⟨_,rfl,?_,rfl,?_⟩
   ·simp only;rw [xG];exact mA
   ·simp only;rw [xG];simp only [TM,zct hc,zcg]
  ·rw [zaa (by simp only [zaj];omega)];exact .inl ⟨_,rfl,by simp only [TM,zcf hc,zcv]⟩
theorem p_ck (v:aI) (hs:SmI v):nv v=some (TK v):=by
 have h16:=hs.aK;have h17:=hs.seen;unfold nv;obtain ⟨hT,hF⟩:=UE v.aK (by omega);unfold TK;cases h1:Gd [] v.aK with
 | false =>
  obtain ⟨e1,e2⟩:=hF h1;rw [zab (by rw [e1];simp),e2];simp [bH]
 | true =>
  obtain ⟨m,e1,hm⟩:=hT h1;have hh:=C9 h1;rw [zaa (by rw [e1];rfl),e1,SH v.seen (by omega)];simp only [zac,zgd,bH,zbt];cases h2:sC none v.seen with
  | false=>simp
  | true =>
   have hc:=(JC _).1 h2;simp only [zbu,zeb,zcb,zbt];rw [UI v hs hc,SI];simp only [zac];cases h3:(wi none v.open_ && Qf v.open_ v.open_) with
   | false=>simp
   | true =>
    have ha:v.open_.all okB=true:=by
     have:=(EA _).1 h3;rw [zaz];intro r hr;have:=this.ok r hr;simp [okB,this.1,this.2]
    rw [ha];cases h5:Qg v.seen [] v.open_ with
    | false=>simp
    | true =>
     simp only [zeu,zbu,zeb,zay,zbs,zcg];rw [p_cnt v m hm hc.ok (by omega),UJ hc.ok hh]
def TL (s n:Int) (r:Range):Prop:=r.source=s/\r.ia+1=n
def TR (s n:Int) (r:Range):Prop:=r.source=s/\r.from_-1=n
instance (s n:Int) (r:Range):Decidable (TL s n r):=by unfold TL;infer_instance
instance (s n:Int) (r:Range):Decidable (TR s n r):=by unfold TR;infer_instance
def tp (s n f:Int):List Range->List Range
 | []=>[⟨s,f,n⟩]
 | r::l=>if TR s n r then ⟨s,f,r.ia⟩::l else ⟨s,f,n⟩::r::l
def mM (s n:Int):List Range->List Range
 | []=>[⟨s,n,n⟩]
 | r::l=>if PL s n r then tp s n n (r::l) else if TL s n r then tp s n r.from_ l else r::mM s n l
theorem Can.tail {r:Range} {l:List Range} (h:Can (r::l)):Can l:=⟨λx hx=>h.ok x (zag _ hx),(zax.1 h.HY).2⟩
theorem B9 {r:Range} {l:List Range} {s n:Int} (h:hasB (r::l) s n=false):hasB l s n=false:=by
 unfold hasB at *;rw [zcx,zge] at h;exact h.2
theorem Nq {α:Type} [Inhabited α] {A B:List α} {x:α} {p:Nat} (h:A.length=p):nth (A++x::B) p=x:=by
 subst h;rw [l8 (by simp)];simp
theorem OF {α:Type} [Inhabited α] {A B:List α} {x b:α} {p:Nat} (h:A.length=p):nth (A++x::b::B) (p+1)=b:=by
 have:=Nq (A:=A++[x]) (B:=B) (x:=b) (p:=p+1) (by simp [h])
 rwa [zat,zbv] at this
theorem OG {α:Type} {A B:List α} {x y:α} {p:Nat} (h:A.length=p):(A++x::B).set p y=A++y::B:=by
 subst h;simp
theorem OH {α:Type} {A B:List α} {x b:α} {p:Nat} (h:A.length=p):(A++x::b::B).take (p+1)++(A++x::b::B).drop (p+2)=A++x::B:=by
 subst h;have e1:(A++x::b::B).take (A.length+1)=A++[x]:=by
  rw [show A++x::b::B=(A++[x])++b::B from by simp,zec (by simp),zbw (by simp)]
 have e2:(A++x::b::B).drop (A.length+2)=B:=by
  rw [show A++x::b::B=(A++[x,b])++B from by simp,show A.length+2=(A++[x,b]).length from by simp,zfo]
 rw [e1,e2];simp
def xg:List Range->Range->List Range->List Range
 | [],x,B=>x::B
 | [a],x,B=>if a.source=x.source/\a.ia+1=x.from_ then ⟨a.source,a.from_,x.ia⟩::B else a::x::B
 | a::b::A,x,B=>a::xg (b::A) x B
theorem H7 (x:Range) (B:List Range) (a:Range):∀ (A:List Range),xg (A++[a]) x B=if a.source=x.source/\a.ia+1=x.from_ then A++⟨a.source,a.from_,x.ia⟩::B else A++a::x::B
 | []=>by simp [xg]
 | [c]=>by simp only [zbv,xg];split <;> simp
 | c::d::A=>by
  have:=H7 x B a (d::A);simp only [List.cons_append] at this ⊢;rw [xg,this];split <;> simp
theorem Nr (A B:List Range) (x:Range) (p:Int) (hp:(A.length:Int)=p) (hl:A.length+B.length<=500000) (hA:∀ a,a∈A->oE a):fY p (A++x::B)=some (xg A x B):=by
 unfold fY;rcases List.eq_nil_or_concat A with rfl|⟨A',a,rfl⟩
 ·simp only [zbh] at hp;have:p=0:=by omega
  subst this;simp [bH,xg,ck]
 ·rw [List.concat_eq_append] at *;have ha:=hA a (by simp);unfold oE at ha;simp only [zak,zai,zbh] at hp hl;have hgt:p > 0:=by omega
  have e1:(p-1).toNat=A'.length:=by omega
  have e2:p.toNat=A'.length+1:=by omega
  have e3:(p+1).toNat=A'.length+2:=by omega
  rw [zat,zbv];simp only [hgt,zgj,bH,zbt];rw [af (λ_=>by omega),af (λ_=>by simp;omega),af (λ_=>by simp;omega),af (λ_=>by simp;omega),af (λ_=>by simp;omega),e1,e2,Nq rfl,OF rfl];unfold mC;rw [af (λ_=>by omega)];simp only [zac,zcg];rw [H7];by_cases h:a.source=x.source/\a.ia+1=x.from_
  ·rw [zaa (by simp [h.1,h.2]),zaa h,af (by omega),af (by simp;omega),af (by simp),af (by simp;omega),af (by simp),af (by omega),OG rfl];unfold oS;rw [af (by simp;omega),e2,e3,OH rfl];rfl
  ·rw [zab (by simpa using h),zab h]
def Lx (s n:Int) (A:List Range):List Range->List Range
 | []=>xg A ⟨s,n,n⟩ []
 | b::B'=>if TR s n b then xg A ⟨s,n,b.ia⟩ B' else xg A ⟨s,n,n⟩ (b::B')
theorem SM {s n:Int} {A B:List Range} (hA:∀ a,a∈A->¬PL s n a) (hB:∀ b,b∈B->PL s n b) (hs:A.Pairwise zm) (hk:∀ a,a∈A->oE a):mM s n (A++B)=Lx s n A B:=by
 induction A with
 | nil =>
  cases B with
  | nil=>rfl
  | cons b B' =>
   rw [zcc,mM,zaa (hB b (zah ..)),tp];simp only [Lx];split <;> rfl
 | cons a A ih =>
  have h1:=hA a (zah ..);have ih:=ih (λx hx=>hA x (zag _ hx)) (zax.1 hs).2 (λx hx=>hk x (zag _ hx));rw [List.cons_append,mM,zab h1];cases A with
  | nil =>
   rw [zcc];by_cases h2:TL s n a
   ·rw [zaa h2];have Hl:=h2;unfold TL at Hl;cases B with
    | nil=>simp [tp,Lx,xg,Hl.1,Hl.2]
    | cons b B' =>
     simp only [tp,Lx,xg];split <;> simp [Hl.1,Hl.2]
   ·rw [zab h2];have Hl:¬(a.source=s/\a.ia+1=n):=h2;cases B with
    | nil=>simp [mM,Lx,xg,Hl]
    | cons b B' =>
     rw [mM,zaa (hB b (zah ..))];simp only [tp,Lx,xg];split <;> simp [Hl]
  | cons c A' =>
   have h3:=(zax.1 hs).1 c (zah ..);have h4:=hA c (by simp);have h5:=hk c (by simp);rw [zab (by unfold TL;unfold zm at h3;unfold PL at h4;unfold oE at h5;omega),ih];cases B with
   | nil=>simp only [Lx,xg]
   | cons b B' =>
    simp only [Lx];split <;> simp only [xg]
theorem Ly (s n:Int):∀ (l:List Range),∀ a,a∈l.take (zn s n l)->¬PL s n a
 | [],a,h=>by simp at h
 | r::l,a,h=>by
  rw [yJ] at h;by_cases hp:PL s n r
  ·rw [zaa hp] at h;simp at h
  ·rw [zab hp,List.take_succ_cons] at h;rcases zan.1 h with rfl|h
   ·exact hp
   ·exact Ly s n l a h
theorem LA {s n:Int}:∀ {l:List Range},Can l->∀ b,b∈l.drop (zn s n l)->PL s n b
 | [],_,b,h=>by simp at h
 | r::l,hc,b,h=>by
  rw [yJ] at h;by_cases hp:PL s n r
  ·rw [zaa hp,List.drop_zero] at h;rcases zan.1 h with rfl|h
   ·exact hp
   ·exact EE ((zax.1 hc.HY).1 b h) (hc.ok b (zag _ h)) hp
  ·rw [zab hp,List.drop_succ_cons] at h;exact LA hc.tail b h
theorem OI (l:List Range) (s n:Int) (hc:Can l) (hl:l.length<=100000):iZ s n l=some (zn s n l:Int):=by
 unfold iZ;have e:∀ i j,kP s n l i j=jf l s n i j:=λi j=>by
  unfold kP jf;have:∀ k,jo k s n l=jX k l s n:=λk=>by
   unfold jo jX;by_cases h:(0:Int)<=k/\k<(l.length:Int)
   ·rw [af h,af h,af (by omega)]
   ·unfold ck;rw [zab h,zab h]
  simp only [this]
 have:ll (l.length:Int) s n l=kz (l.length:Int) l s n:=by
  unfold ll kz;simp only [e]
 rw [this,Ge l s n hc hl];rfl
theorem Yd (l:List Range) (s n:Int) (hc:Can l) (hl:l.length<=100000):r9 s n l=some (hasB l s n && B5 s n):=by
 have hp:=OI l s n hc hl;have:=SG l s n hc hl;have hle:=Np s n l;unfold nn oV at this;rw [Ge l s n hc hl] at this;unfold r9;rw [hp];simp only [zac,dI] at this ⊢;rw [af (λh=>by simp at h;omega),af (λh=>by simp at h;omega)] at this;rw [af (λh=>by simp at h;omega),af (λh=>by simp at h;omega),af (λh=>by simp at h;omega),af (λh=>by simp at h;omega)];exact this
theorem Qj (A:List Range) (s n:Int) (p:Nat) (hp:iZ s n (A++[])=some (p:Int)) (Qk:A.length=p) (hl:A.length<=100000) (VR:∀ a,a∈A->oE a):ic s n (A++[])=some (xg A ⟨s,n,n⟩ []):=by
 unfold ic;rw [hp,zac];unfold rJ;rw [zbn,af ⟨by omega,by omega,by simp,by simp;omega⟩,zac,show ((p:Nat):Int).toNat=p from by omega,zbw (by omega),zds (by omega),zbn];have hf:decide ((p:Int)+1<((A++[(⟨s,n,n⟩:Range)]).length:Int))=false:=by
  rw [zcy,zak,zam];omega
 simp only [hf];rw [af (by omega),af (λh=>absurd h zdy),af (λh=>absurd h zdy),af (λh=>absurd h zdy),af (λh=>absurd h zdy),af (λh=>absurd h zdy)];simp only [bH,zay,zbs,zac,zcv];exact Nr A [] _ _ (by omega) (by rw [zbh];omega) VR
theorem Ns (A B':List Range) (b:Range) (s n:Int) (p:Nat) (hp:iZ s n (A++b::B')=some (p:Int)) (Qk:A.length=p) (hl:A.length+B'.length<=100000) (VR:∀ a,a∈A->oE a) (hb:oE b) (hn:0<=n/\n<=999999999):ic s n (A++b::B')=some (if TR s n b then xg A ⟨s,n,b.ia⟩ B' else xg A ⟨s,n,n⟩ (b::B')):=by
 unfold ic;rw [hp,zac];unfold rJ;have e3:((p:Int)+1).toNat=p+1:=by omega
 have e4:((p:Int)+2).toNat=p+2:=by omega
 have hlen:(A++b::B').length=p+(B'.length+1):=by rw [zak,zai,Qk]
 rw [af ⟨by omega,by omega,by simp,by rw [hlen,zam];omega⟩,zac,show ((p:Nat):Int).toNat=p from by omega,zec (by omega),zbw (by omega),show List.drop p (A++b::B')=b::B' from by rw [←Qk,zfo],zat,zbv];unfold oE at hb;have Ca:(A++(⟨s,n,n⟩:Range)::b::B').length=p+(B'.length+2):=by rw [zak,zai,zai,Qk]
 have ht:decide ((p:Int)+1<((A++(⟨s,n,n⟩:Range)::b::B').length:Int))=true:=by rw [zbr,Ca];omega
 simp only [ht];rw [af (by omega),af (λ_=>by rw [Ca];omega),af (λ_=>by rw [Ca];omega),af (λ_=>by omega),af (λ_=>by rw [Ca];omega),af (λ_=>by rw [Ca];omega),e3,Nq Qk,OF Qk];unfold mC;rw [af (λ_=>by simp only;omega)];simp only [bH,zbt,zac,zcg];by_cases h:TR s n b
 ·have h':=h;unfold TR at h';rw [zaa (by simp;omega),zaa h,af (by omega),af (by rw [Ca];omega),af (by rw [Ca];omega),af (by rw [Ca];omega),af (by rw [Ca];omega),af (by omega),af (by omega),OG Qk];unfold oS;have hlen3:(A++(⟨s,n,b.ia⟩:Range)::b::B').length=p+(B'.length+2):=by rw [zak,zai,zai,Qk]
  rw [af (by rw [hlen3];omega),e3,e4,OH Qk];simp only [zac];exact Nr A B' _ _ (by omega) (by omega) VR
 ·have h':=h;unfold TR at h';rw [zab (by simp;omega),zab h];exact Nr A (b::B') _ _ (by omega) (by rw [zai];omega) VR
theorem SN (l:List Range) (s n:Int) (hc:Can l) (hn:0<=n/\n<=999999999) (hl:l.length<=100000):ic s n l=some (mM s n l):=by
 have hp:=OI l s n hc hl;have hle:=Np s n l;have hA:=Ly s n l;have hB:=LA (s:=s) (n:=n) hc;have Qk:(l.take (zn s n l)).length=zn s n l:=by rw [zba];omega
 have hlB:(l.drop (zn s n l)).length=l.length-zn s n l:=by rw [zbg]
 have VR:∀ a,a∈l.take (zn s n l)->oE a:=λa ha=>hc.ok a (zen ha)
 have hkB:∀ b,b∈l.drop (zn s n l)->oE b:=λb hb=>hc.ok b (zdh hb)
 have key:=SM hA hB (hc.HY.sublist (List.take_sublist _ _)) VR;have e:=zff (zn s n l) l;cases hBc:l.drop (zn s n l) with
 | nil =>
  rw [hBc] at key e;have:=Qj (l.take (zn s n l)) s n (zn s n l) (by rw [e];exact hp) Qk (by omega) VR;rw [e] at this key;rw [this,key];rfl
 | cons b B' =>
  rw [hBc] at key e hlB;rw [zai] at hlB;have:=Ns (l.take (zn s n l)) B' b s n (zn s n l) (by rw [e];exact hp) Qk (by omega) VR (hkB b (by rw [hBc];exact zah ..)) hn;rw [e] at this key;rw [this,key];rfl
def JE (src:Int):List aa->Int
 | []=>0
 | r::l=>if cW r=0 then (if r.source=src then JE src l else 8) else cW r
def LB (s n f:Int):Int:=if (s<1∨99<s)∨(n<1∨999999999<n) then 6 else if f<1∨3<f then 7 else 0
def yK (b:Batch):Int:=if LB b.source b.number b.format=0 then (if 4096<b.records.length then 5 else JE b.source b.records) else LB b.source b.number b.format
def SmL (l:List aa):Prop:=∀ r,r∈l->r.a.length<1000000000/\r.b.length<1000000000
theorem SmL.nth {l:List aa} (h:SmL l) {k:Nat} (hk:k<l.length):(Go.Abs.nth l k).a.length<1000000000/\(Go.Abs.nth l k).b.length<1000000000:=by
 rw [l8 hk];exact h _ (zfg hk)
theorem SO (b:Batch) (h:SmL b.records) (hl:b.records.length<=4096):loop (λs=>gT b s) 0=some (JE b.source b.records):=by
 have:=qU (step:=λs=>gT b s) (λi:Int=>some (JE b.source (b.records.drop i.toNat))) (λi=>0<=i/\i<=(b.records.length:Int)) (λi=>((b.records.length:Int) - i).toNat) (λi hI=>by
  obtain ⟨h0,h1⟩:=hI;show (∃ r,gT b i=_/\_)∨∃ s',gT b i=_/\_;unfold gT;by_cases hi:i<(b.records.length:Int)
  ·have hd:=p7 (l:=b.records) (k:=i.toNat) (by omega);have hs:=h.nth (k:=i.toNat) (by omega);rw [zaa (by simpa using hi),af ⟨h0,hi⟩,Lb _ hs.1 hs.2,hd];generalize Go.Abs.nth b.records i.toNat=r at *;simp only [zac,JE];by_cases he:cW r=0
   ·rw [zab (by simp [he]),zaa he];by_cases As:r.source=b.source
    ·rw [zab (by simp [As]),zaa As,af (by omega)];refine .inr ⟨i+1,rfl,⟨by omega,by omega⟩,by omega,?_⟩;rw [show (i+1).toNat=i.toNat+1 from by omega]
    ·rw [zaa (by simpa using As),zab As];exact .inl ⟨_,rfl,rfl⟩
   ·rw [zaa (by simpa using he),zab he];exact .inl ⟨_,rfl,rfl⟩
  ·rw [zab (by simpa using hi),zds (by omega)];exact .inl ⟨_,rfl,rfl⟩) (s:=0) ⟨by omega,by omega⟩ (by omega)
 simpa using this
theorem Ye (h:Head):j6 h=some (if LB h.source h.number h.format=0 then (if h.count<0∨4096<h.count then 5 else 0) else LB h.source h.number h.format):=by
 unfold j6;simp only [jn,zac,dR];by_cases h1:(h.source<1∨99<h.source)∨(h.number<1∨999999999<h.number)
 ·have e:LB h.source h.number h.format=6:=zaa h1;rw [e];show _=some (6:Int);by_cases hs:h.source<1∨99<h.source
  ·rw [zaa (by simp;omega)]
  ·have hn:h.number<1∨999999999<h.number:=by omega
   rw [zaa (by simp;omega)]
 ·by_cases h2:h.format<1∨3<h.format
  ·have e:LB h.source h.number h.format=7:=by unfold LB;rw [zab h1,zaa h2]
   rw [e];show _=some (7:Int);rw [zab (by simp;omega),zaa (by simp;omega)]
  ·have e:LB h.source h.number h.format=0:=by unfold LB;rw [zab h1,zab h2]
   rw [e];show _=some (if h.count<0∨4096<h.count then 5 else 0);rw [zab (by simp;omega),zab (by simp;omega)];by_cases h3:h.count<0∨4096<h.count
   ·rw [zaa h3,zaa (by simp;omega)]
   ·rw [zab h3,zab (by simp;omega)]
theorem Yf (b:Batch) (h:SmL b.records):oU b=some (yK b):=by
 unfold oU qe yK;simp only [zac,Ye];by_cases h1:LB b.source b.number b.format=0
 ·simp only [h1,zbt];by_cases h2:4096<b.records.length
  ·have Hl:(b.records.length:Int)<0∨4096<(b.records.length:Int):=by omega
   rw [zaa Hl,zaa h2];rfl
  ·have Hl:¬ ((b.records.length:Int)<0∨4096<(b.records.length:Int)):=by omega
   rw [zab Hl,zab h2];exact SO b h (by omega)
 ·simp only [zab h1];rw [zaa (by simpa using h1)]
theorem OJ {s:Int}:∀ {l:List aa},JE s l=0->∀ r,r∈l->cW r=0
 | [],_,r,h=>by cases h
 | x::l,hc,r,h=>by
  rw [JE] at hc;by_cases he:cW x=0
  ·rw [zaa he] at hc;by_cases hs:x.source=s
   ·rw [zaa hs] at hc;rcases zan.1 h with rfl|h
    ·exact he
    ·exact OJ hc r h
   ·rw [zab hs] at hc;omega
  ·rw [zab he] at hc;exact absurd hc he
theorem zo {b:Batch} (h:yK b=0):(1<=b.source/\b.source<=99)/\(1<=b.number/\b.number<=999999999)/\(1<=b.format/\b.format<=3)/\b.records.length<=4096/\∀ r,r∈b.records->cW r=0:=by
 unfold yK at h;by_cases h1:LB b.source b.number b.format=0
 ·rw [zaa h1] at h;by_cases h2:4096<b.records.length
  ·rw [zaa h2] at h;omega
  ·rw [zab h2] at h;unfold LB at h1;by_cases h3:(b.source<1∨99<b.source)∨(b.number<1∨999999999<b.number)
   ·rw [zaa h3] at h1;omega
   ·rw [zab h3] at h1;by_cases h4:b.format<1∨3<b.format
    ·rw [zaa h4] at h1;omega
    ·exact ⟨by omega,by omega,by omega,by omega,OJ h⟩
 ·rw [zab h1] at h;exact absurd h h1
theorem JF {r:aa} (h:cW r=0):B5 r.source r.az=true:=by
 have g:=mJ h;have h1:=g.source;have h2:=g.az;unfold B5;rw [zbr];exact ⟨by omega,by omega⟩
theorem Gg {s n f:Int} {l:List Range} (hc:Can l) (hi:B5 s n=true) (hf:1<=f/\f<=n) (h:∀ r,r∈l->PL s n r) (hh:hasB l s n=false):Can (tp s n f l)/\∀ p,oE p->(zm p ⟨s,f,n⟩)->(∀ r,r∈l->zm p r)->∀ x,x∈tp s n f l->zm p x:=by
 have hi':=zcs hi;cases l with
 | nil =>
  refine ⟨⟨λx hx=>?_,by simp [tp]⟩,λp hp h1 h2 x hx=>?_⟩
  ·simp [tp] at hx;subst hx;unfold oE;simp only;omega
  ·simp [tp] at hx;subst hx;exact h1
 | cons r l =>
  have hr:=h r (zah ..);have ho:=hc.ok r (zah ..);have hs:=zax.1 hc.HY;have hn:¬(r.source=s/\r.from_<=n/\n<=r.ia):=by
   have:=zfa.1 hh r (zah ..);simpa using this
  rw [tp];by_cases h3:TR s n r
  ·rw [zaa h3];unfold TR at h3;have mX:=ho;unfold oE at mX;refine ⟨⟨λx hx=>?_,zax.2 ⟨λx hx=>?_,hs.2⟩⟩,λp hp h1 h2 x hx=>?_⟩
   ·rcases zan.1 hx with rfl|hx
    ·unfold oE;simp only;omega
    ·exact hc.ok x (zag _ hx)
   ·have:=hs.1 x hx;unfold zm at this ⊢;simp only;omega
   ·rcases zan.1 hx with rfl|hx
    ·unfold zm at h1 ⊢;simp only at h1 ⊢;omega
    ·exact h2 x (zag _ hx)
  ·rw [zab h3];unfold TR at h3;have mX:=ho;unfold oE at mX;have cJ:zm ⟨s,f,n⟩ r:=by
    unfold zm;unfold PL at hr;simp only;omega
   refine ⟨⟨λx hx=>?_,zax.2 ⟨λx hx=>?_,hc.HY⟩⟩,λp hp h1 h2 x hx=>?_⟩
   ·rcases zan.1 hx with rfl|hx
    ·unfold oE;simp only;omega
    ·exact hc.ok x hx
   ·rcases zan.1 hx with rfl|hx
    ·exact cJ
    ·have:=hs.1 x hx;unfold zm at this cJ ⊢;simp only at cJ ⊢;omega
   ·rcases zan.1 hx with rfl|hx
    ·exact h1
    ·exact h2 x hx
theorem Gh {s n:Int} (hi:B5 s n=true):∀ {l:List Range},Can l->hasB l s n=false->Can (mM s n l)/\∀ p,oE p->zm p ⟨s,n,n⟩->(∀ r,r∈l->zm p r)->∀ x,x∈mM s n l->zm p x
 | [],hc,hh=>Gg hc hi (by have:=zcs hi;omega) (by simp) hh
 | r::l,hc,hh=>by
  have hi':=zcs hi;have ho:=hc.ok r (zah ..);have hs:=zax.1 hc.HY;have mX:=ho;unfold oE at mX;by_cases hp:PL s n r
  ·rw [mM,zaa hp];exact Gg hc hi (by omega) (λx hx=>by
    rcases zan.1 hx with rfl|hx
    ·exact hp
    ·exact EE (hs.1 x hx) (hc.ok x (zag _ hx)) hp) hh
  ·rw [mM,zab hp];by_cases h1:TL s n r
   ·rw [zaa h1];have Mk:=h1;unfold TL at Mk;have:=Gg (f:=r.from_) hc.tail hi (by omega) (λx hx=>by
     have h3:=hs.1 x hx;have h5:=hc.ok x (zag _ hx);unfold zm at h3;unfold oE at h5;unfold PL;omega) (B9 hh)
    refine ⟨this.1,λp hq h2 h3 x hx=>this.2 p hq ?_ (λy hy=>h3 y (zag _ hy)) x hx⟩;have:=h3 r (zah ..);unfold zm at this ⊢;simp only;omega
   ·rw [zab h1];unfold TL at h1;unfold PL at hp;obtain ⟨k1,k2⟩:=Gh hi hc.tail (B9 hh);refine ⟨⟨λx hx=>?_,zax.2 ⟨k2 r ho ?_ hs.1,k1.HY⟩⟩,λp hq h2 h3 x hx=>?_⟩
    ·rcases zan.1 hx with rfl|hx
     ·exact ho
     ·exact k1.ok x hx
    ·unfold zm;simp only;omega
    ·rcases zan.1 hx with rfl|hx
     ·exact h3 x (zah ..)
     ·exact k2 p hq h2 (λy hy=>h3 y (zag _ hy)) x hx
theorem LC (s n f:Int) (l:List Range):(tp s n f l).length<=l.length+1:=by
 cases l with
 | nil=>simp [tp]
 | cons r l=>rw [tp];split <;> simp
theorem Gi (s n:Int):∀ (l:List Range),(mM s n l).length<=l.length+1
 | []=>by simp [mM]
 | r::l=>by
  have h1:=LC s n n (r::l);have h2:=LC s n r.from_ l;have h3:=Gi s n l;rw [mM];split
  ·exact h1
  ·split
   ·simp only [zai];omega
   ·simp only [zai];omega
abbrev Tri:=List Range×List aa×List ai
def Hg (w:b9) (r:aa):Prop:=¬(r.start<w.fL∨r.start > w.lg)
instance (w:b9) (r:aa):Decidable (Hg w r):=by unfold Hg;infer_instance
def TN (r:aa) (i e:Int):ai:=⟨r.source,r.az,i,e⟩
def dP (w:b9):List Range->Int->List aa->Tri
  | l,i,[]=>(l,[],[])
  | l,i,r::t =>
    if Hg w r then
      (if hasB l r.source r.az=false then ((dP w (mM r.source r.az l) (i+1) t).1,r::(dP w (mM r.source r.az l) (i+1) t).2.1,(dP w (mM r.source r.az l) (i+1) t).2.2)
       else ((dP w l (i+1) t).1,(dP w l (i+1) t).2.1,TN r i 13::(dP w l (i+1) t).2.2))
    else ((dP w l (i+1) t).1,(dP w l (i+1) t).2.1,TN r i 15::(dP w l (i+1) t).2.2)
def gP:List Range->List (Int×aa)->Tri
 | l,[]=>(l,[],[])
 | l,p::t =>
  if hasB l p.2.source p.2.az=false then ((gP (mM p.2.source p.2.az l) t).1,p.2::(gP (mM p.2.source p.2.az l) t).2.1,(gP (mM p.2.source p.2.az l) t).2.2)
  else ((gP l t).1,(gP l t).2.1,TN p.2 p.1 13::(gP l t).2.2)
def pW (w:b9):Int->List aa->List (Int×aa)
 | i,[]=>[]
 | i,r::t=>if Hg w r then (i,r)::pW w (i+1) t else pW w (i+1) t
def nW (w:b9):Int->List aa->List ai
 | i,[]=>[]
 | i,r::t=>if Hg w r then nW w (i+1) t else TN r i 15::nW w (i+1) t
def Mp:Int->List aa->List (Int×aa)
 | i,[]=>[]
 | i,r::t=>(i,r)::Mp (i+1) t
theorem H8 (w:b9):∀ (t:List aa) (l:List Range) (i:Int),(dP w l i t).1=(gP l (pW w i t)).1/\(dP w l i t).2.1=(gP l (pW w i t)).2.1/\(dP w l i t).2.2.Perm (nW w i t++(gP l (pW w i t)).2.2)
 | [],l,i=>⟨rfl,rfl,zgi _⟩
 | r::t,l,i=>by
  by_cases h:Hg w r
  ·by_cases hh:hasB l r.source r.az=false
   ·obtain ⟨a,b,c⟩:=H8 w t (mM r.source r.az l) (i+1);simp only [dP,pW,nW,gP,zaa h,zaa hh];exact ⟨a,by rw [b],c⟩
   ·obtain ⟨a,b,c⟩:=H8 w t l (i+1);simp only [dP,pW,nW,gP,zaa h,zab hh];exact ⟨a,b,(c.cons _).trans zfw.symm⟩
  ·obtain ⟨a,b,c⟩:=H8 w t l (i+1);simp only [dP,pW,nW,zab h];exact ⟨a,b,c.cons _⟩
theorem JG (w:b9):∀ (t:List aa) (l:List Range) (i:Int),(∀ x,x∈(dP w l i t).2.2->i<=x.index)/\(dP w l i t).2.2.Pairwise (λa b=>a.index<b.index)
 | [],l,i=>⟨λx hx=>by simp [dP] at hx,by simp [dP]⟩
 | r::t,l,i=>by
  by_cases h:Hg w r
  ·by_cases hh:hasB l r.source r.az=false
   ·obtain ⟨a,b⟩:=JG w t (mM r.source r.az l) (i+1);simp only [dP,zaa h,zaa hh];exact ⟨λx hx=>by have:=a x hx;omega,b⟩
   ·obtain ⟨a,b⟩:=JG w t l (i+1);simp only [dP,zaa h,zab hh];refine ⟨λx hx=>?_,zax.2 ⟨λx hx=>?_,b⟩⟩
    ·rcases zan.1 hx with rfl|hx
     ·exact zft _
     ·have:=a x hx;omega
    ·have:=a x hx;simp only [TN];omega
  ·obtain ⟨a,b⟩:=JG w t l (i+1);simp only [dP,zab h];refine ⟨λx hx=>?_,zax.2 ⟨λx hx=>?_,b⟩⟩
   ·rcases zan.1 hx with rfl|hx
    ·exact zft _
    ·have:=a x hx;omega
   ·have:=a x hx;simp only [TN];omega
theorem JH (x:ai):∀ (l:List ai),(DX x l).Perm (x::l)
 | []=>zgi _
 | y::l=>by
  rw [DX];split
  ·exact zgi _
  ·exact ((JH x l).cons y).trans (List.Perm.swap x y l)
theorem LD:∀ (l:List ai),(HM l).Perm l
 | []=>zgi _
 | x::l=>(JH x _).trans ((LD l).cons x)
theorem OK (x:ai):∀ {l:List ai},l.Pairwise (λa b=>a.index<=b.index)->(DX x l).Pairwise (λa b=>a.index<=b.index)
 | [],_=>by simp [DX]
 | y::l,h=>by
  have h':=zax.1 h;rw [DX];by_cases ML:x.index<=y.index
  ·rw [zaa ML];refine zax.2 ⟨λz hz=>?_,h⟩;rcases zan.1 hz with rfl|hz
   ·exact ML
   ·have:=h'.1 z hz;omega
  ·rw [zab ML];refine zax.2 ⟨λz hz=>?_,OK x h'.2⟩;rcases zan.1 ((JH x l).mem_iff.1 hz) with rfl|hz
   ·omega
   ·exact h'.1 z hz
theorem LF:∀ (l:List ai),(HM l).Pairwise (λa b=>a.index<=b.index)
 | []=>List.Pairwise.nil
 | x::l=>OK x (LF l)
theorem LG:∀ {l l':List ai},l.Pairwise (λa b=>a.index<=b.index)->l'.Pairwise (λa b=>a.index<b.index)->l.Perm l'->l=l'
 | [],l',_,_,p=>by rw [List.Perm.nil_eq p]
 | a::l,[],_,_,p=>by have:=p.length_eq;simp at this
 | a::l,b::l',h,h',p=>by
  have h1:=zax.1 h;have h2:=zax.1 h';have e:a=b:=by
   rcases zan.1 (p.mem_iff.1 (zah ..)) with e|ha
   ·exact e
   ·rcases zan.1 (p.mem_iff.2 (zah ..)) with e|hb
    ·exact e.symm
    ·have:=h1.1 b hb;have:=h2.1 a ha;omega
  subst e;rw [LG h1.2 h2.2 p.cons_inv]
theorem Yg {l d:List ai} (hd:d.Pairwise (λa b=>a.index<b.index)) (p:d.Perm l) (hl:l.length<=100000):tc l=some d:=by
 unfold tc;have hn:(l.map (·.index)).Nodup:=by
  refine (p.map (·.index)).nodup_iff.1 ?_
  rw [List.Nodup,List.pairwise_map];exact hd.imp (λh=>by omega)
 rw [af ⟨by omega,hn⟩,LG (LF l) hd ((LD l).trans p.symm)]
theorem Nt (f:Int->Int):∀ (ps:List (Int×aa)) (l:List Range),gP l (ps.map λp=>(f p.1,p.2))=((gP l ps).1,(gP l ps).2.1,(gP l ps).2.2.map λx=>⟨x.source,x.az,f x.index,x.err⟩)
 | [],l=>rfl
 | p::t,l=>by
  simp only [zap,gP];by_cases hh:hasB l p.2.source p.2.az=false
  ·simp only [zaa hh,Nt f t]
  ·simp only [zab hh,Nt f t,zap,TN]
theorem SP (full:List Int):∀ (ps:List (Int×aa)) (k:Int),0<=k->(∀ j,j<ps.length->nth full (k.toNat+j)=nth (ps.map (·.1)) j)->(Mp k (ps.map (·.2))).map (λp=>(nth full p.1.toNat,p.2))=ps
 | [],k,_,_=>rfl
 | p::ps,k,h0,h=>by
  have h1:=h 0 (by simp);rw [zdn,zap,fp] at h1;simp only [zap,Mp,h1];congr 1;exact SP full ps (k+1) (by omega) (λj hj=>by
   have:=h (j+1) (by simpa using hj);rw [zap,eU] at this;rw [←this];congr 1;omega)
theorem Nu {lo hi:Int}:∀ {ps:List (Int×aa)} {l:List Range},(∀ p,p∈ps->lo<=p.1/\p.1<hi)->∀ x,x∈(gP l ps).2.2->lo<=x.index/\x.index<hi
 | [],l,_,x,hx=>by simp [gP] at hx
 | p::t,l,h,x,hx=>by
  have h':=λq hq=>h q (zag _ hq)
  rw [gP] at hx;by_cases hh:hasB l p.2.source p.2.az=false
  ·rw [zaa hh] at hx;exact Nu h' x hx
  ·rw [zab hh] at hx;rcases zan.1 hx with rfl|hx
   ·exact h p (zah ..)
   ·exact Nu h' x hx
theorem SQ:∀ (t:List aa) (i:Int) (p:Int×aa),p∈Mp i t->i<=p.1/\p.1<i+t.length
 | [],i,p,h=>by simp [Mp] at h
 | r::t,i,p,h=>by
  rcases zan.1 h with rfl|h
  ·simp only [zai];omega
  ·have:=SQ t (i+1) p h;simp only [zai];omega
theorem JI:∀ (ps:List (Int×aa)) (l:List Range),(gP l ps).2.1.length+(gP l ps).2.2.length=ps.length/\(gP l ps).1.length<=l.length+ps.length
 | [],l=>by simp [gP]
 | p::t,l=>by
  rw [gP];by_cases hh:hasB l p.2.source p.2.az=false
  ·have:=JI t (mM p.2.source p.2.az l);have h2:=Gi p.2.source p.2.az l;rw [zaa hh];simp only [zai];omega
  ·have:=JI t l;rw [zab hh];simp only [zai];omega
theorem Nv (w:b9):∀ (t:List aa) (i:Int),(pW w i t).length+(nW w i t).length=t.length
 | [],i=>rfl
 | r::t,i=>by
  have:=Nv w t (i+1);rw [pW,nW];by_cases h:Hg w r
  ·rw [zaa h,zaa h];simp only [zai];omega
  ·rw [zab h,zab h];simp only [zai];omega
theorem Gj (w:b9):∀ (t:List aa) (i:Int) (p:Int×aa),p∈pW w i t->i<=p.1/\p.1<i+t.length/\nth t (p.1-i).toNat=p.2/\p.2∈t
 | [],i,p,h=>by simp [pW] at h
 | r::t,i,p,h=>by
  have key:p∈pW w (i+1) t->i<=p.1/\p.1<i+(r::t).length/\nth (r::t) (p.1-i).toNat=p.2/\p.2∈r::t:=λh=>by
   obtain ⟨a,b,c,d⟩:=Gj w t (i+1) p h;refine ⟨by omega,by simp only [zai];omega,?_,zag _ d⟩;rw [show (p.1-i).toNat=(p.1-(i+1)).toNat+1 from by omega,eU];exact c
  rw [pW] at h;by_cases hw:Hg w r
  ·rw [zaa hw] at h;rcases zan.1 h with rfl|h
   ·refine ⟨zft _,by simp only [zai];omega,?_,zah ..⟩;rw [show (i-i).toNat=0 from by omega,fp]
   ·exact key h
  ·rw [zab hw] at h;exact key h
theorem Nw:∀ {ps:List (Int×aa)} {l:List Range} {r:aa},r∈(gP l ps).2.1->∃ p,p∈ps/\p.2=r
 | [],l,r,h=>by simp [gP] at h
 | p::t,l,r,h=>by
  rw [gP] at h;by_cases hh:hasB l p.2.source p.2.az=false
  ·rw [zaa hh] at h;rcases zan.1 h with rfl|h
   ·exact ⟨p,zah ..,rfl⟩
   ·obtain ⟨q,h1,h2⟩:=Nw h;exact ⟨q,zag _ h1,h2⟩
  ·rw [zab hh] at h;obtain ⟨q,h1,h2⟩:=Nw h;exact ⟨q,zag _ h1,h2⟩
theorem xh:∀ (now l:List aa),(eX now l).1.length+(eX now l).2.length<=now.length+l.length
 | now,[]=>by simp [eX]
 | now,r::l=>by
  have h1:=C8 now r;have h2:=xh (jH now r).2 l;simp only [eX,zai,zak];omega
theorem p_win (r:aa) (w:b9):j8 r w=some (if Hg w r then 0 else 15):=by
 unfold j8;by_cases h:Hg w r
 ·rw [zaa h,zab (by unfold Hg at h;simpa using h)]
 ·rw [zab h,zaa (by unfold Hg at h;have h':=Decidable.not_not.1 h;simpa using h')]
theorem SR (l:List aa) (w:b9) (hl:l.length<=100000):mr l w=some ((pW w 0 l).map (·.1),nW w 0 l):=by
 unfold mr;refine (bj l (λst:List ai×List Int×Int=>st.2.2) (λst t=>some (st.2.1++(pW w st.2.2 t).map (·.1),st.1++nW w st.2.2 t)) (λst t=>st.1.length+st.2.1.length+t.length<=100000) (by omega) ?_ ?_ (s:=(([]:List ai),([]:List Int),(0:Int))) rfl (by simpa using hl)).trans (by simp)
 ·rintro ⟨y,a,i⟩ _ hi;simp only at hi ⊢;unfold gU;rw [zab (by simp only [zaj];omega)];exact ⟨_,rfl,by simp [pW,nW]⟩
 ·rintro ⟨y,a,i⟩ r t hb jJ gC hx hlen;simp only at hb jJ gC hx hlen ⊢;simp only [zai] at hb;unfold gU;rw [zaa (by simpa using gC),af ⟨jJ,gC⟩,hx,p_win,zac];by_cases h:Hg w r
  ·rw [zaa h,zab (by simp),af (by simp only [zam];omega),af (by omega)];refine .inr ⟨_,rfl,by simp only [zak,zam];omega,rfl,?_⟩;simp only [pW,nW,zaa h,zap,zat,zbv]
  ·rw [zab h,zaa (by simp),af (by simp only [zam];omega),af (by omega)];refine .inr ⟨_,rfl,by simp only [zak,zam];omega,rfl,?_⟩;simp only [pW,nW,zab h,TN,zat,zbv]
theorem SS (l:List Range) (gR:List aa) (hc:Can l) (hv:∀ r,r∈gR->cW r=0) (hl:l.length+gR.length<=50000):np l gR=some (gP l (Mp 0 gR)):=by
 unfold np iV;rw [af (by omega),zac];refine (bj gR (λst:List Range×List aa×Int×List ai=>st.2.2.1) (λst t=>some ((gP st.1 (Mp st.2.2.1 t)).1,st.2.1++(gP st.1 (Mp st.2.2.1 t)).2.1,st.2.2.2++(gP st.1 (Mp st.2.2.1 t)).2.2)) (λst t=>Can st.1/\(st.1.length+t.length<=50000/\st.2.1.length+st.2.2.2.length+t.length<=50000)/\∀ r,r∈t->cW r=0) (by omega) ?_ ?_ (s:=(l,([]:List aa),(0:Int),([]:List ai))) rfl ⟨hc,⟨hl,by simp only [zbh];omega⟩,hv⟩).trans (by simp)
 ·rintro ⟨y,o,i,e⟩ _ hi;simp only at hi ⊢;unfold mQ j9;rw [zab (by simp only [zaj];omega)];exact ⟨_,rfl,by simp [gP,Mp]⟩
 ·rintro ⟨y,o,i,e⟩ r t ⟨hy,⟨Hn,Ho⟩,ht⟩ jJ gC hx hlen;simp only at hy Hn Ho ht jJ gC hx hlen ⊢;simp only [zai] at Hn Ho;have hr:=ht r (zah ..);have hid:=JF hr;have hid':=zcs hid;have tJ:∀ x,x∈t->cW x=0:=λx hx=>ht x (zag _ hx)
  unfold mQ;rw [zaa (by simpa using gC),af ⟨jJ,gC⟩,hx];simp only [dI,wk,zac];rw [show decide ((1<=r.source/\r.source<=99)/\1<=r.az/\r.az<=999999999)=true from hid,zab (by simp),Yd y _ _ hy (by omega),zac,hid,zeu];simp only [Mp,gP];by_cases hh:hasB y r.source r.az=false
  ·rw [zab (by simp [hh]),zaa hh,SN y _ _ hy (by omega) (by omega),zac,af (by simp only [zam];omega),af (by omega)];have:=Gi r.source r.az y;refine .inr ⟨_,rfl,⟨(Gh hid hy hh).1,⟨by simp only;omega,by simp only [zak,zam];omega⟩,tJ⟩,rfl,?_⟩;simp only [zat,zbv]
  ·rw [zaa (by simpa using hh),zab hh];unfold lk;rw [af ⟨jJ,gC⟩,af ⟨jJ,gC⟩,hx,af (by simp only [zam];omega),zac,af (by omega)];refine .inr ⟨_,rfl,⟨hy,⟨by simp only;omega,by simp only [zak,zam];omega⟩,tJ⟩,rfl,?_⟩;simp only [TN,zat,zbv]
def Y7 (a:List Int) (x:ai):ai:=⟨x.source,x.az,nth a x.index.toNat,x.err⟩
abbrev Res:=aI×(List aa)×(List ai)×Int
theorem Yh (b:Batch) (y3:List Int×List ai) (y4:List Range×List aa×List Head) (y5:Tri) (R:Res) (hidx:∀ x,x∈y5.2.2->0<=x.index/\x.index<(y3.1.length:Int)) (hl:y3.2.length+y5.2.2.length<=100000)
  (hj:fC b y4 y5 (y3.2++y5.2.2.map (Y7 y3.1))=some R):loop (λs:List ai×Int=>jt b y3 y4 y5 s.1 s.2) (y3.2,0)=some R:=by
 refine bj y5.2.2 (λst:List ai×Int=>st.2) (λst t=>some R) (λst t=>st.1++t.map (Y7 y3.1)=y3.2++y5.2.2.map (Y7 y3.1)/\∀ x,x∈t->0<=x.index/\x.index<(y3.1.length:Int)) (by omega) ?_ ?_ (s:=(y3.2,(0:Int))) rfl ⟨rfl,hidx⟩
 ·rintro ⟨y,i⟩ ⟨hh,_⟩ hi;simp only [zbf,zbn] at hh hi ⊢;unfold jt;rw [zab (by simp only [zaj];omega),hh,hj];exact ⟨_,rfl,rfl⟩
 ·rintro ⟨y,i⟩ x t ⟨hh,hk⟩ jJ gC hx hlen;simp only at hh hk jJ gC hx hlen ⊢;have TX:=hk x (zah ..);have hle:=zbq List.length hh;simp only [zak,zdc,zai] at hle;unfold jt;rw [zaa (by simpa using gC),af ⟨jJ,gC⟩,hx,af TX,af (by simp only [zam];omega),af (by omega)];refine .inr ⟨_,rfl,⟨?_,λz hz=>hk z (zag _ hz)⟩,rfl,trivial⟩;rw [←hh];simp only [zap,Y7,zat,zbv]
theorem Yi (v:aI) (b:Batch) (y3:List Int×List ai) (R:Res) (hat:∀ i,i∈y3.1->0<=i/\i<(b.records.length:Int)) (hl:y3.1.length<=100000)
  (hj:fD v b y3 (y3.1.map λi=>nth b.records i.toNat)=some R):loop (λs:List aa×Int=>fE v b y3 s.1 s.2) (([]:List aa),0)=some R:=by
 refine bj y3.1 (λst:List aa×Int=>st.2) (λst t=>some R) (λst t=>st.1++t.map (λi=>nth b.records i.toNat)=y3.1.map (λi=>nth b.records i.toNat)/\∀ x,x∈t->0<=x/\x<(b.records.length:Int)) (by omega) ?_ ?_ (s:=(([]:List aa),(0:Int))) rfl ⟨rfl,hat⟩
 ·rintro ⟨y,i⟩ ⟨hh,_⟩ hi;simp only [zbf,zbn] at hh hi ⊢;unfold fE;rw [zab (by simp only [zaj];omega),hh,hj];exact ⟨_,rfl,rfl⟩
 ·rintro ⟨y,i⟩ x t ⟨hh,hk⟩ jJ gC hx hlen;simp only at hh hk jJ gC hx hlen ⊢;have TX:=hk x (zah ..);have hle:=zbq List.length hh;simp only [zak,zdc,zai] at hle;unfold fE;rw [zaa (by simpa using gC),af ⟨jJ,gC⟩,hx,af TX,af (by simp only [zam];omega),af (by omega)];refine .inr ⟨_,rfl,⟨?_,λz hz=>hk z (zag _ hz)⟩,rfl,trivial⟩;rw [←hh];simp only [zap,zat,zbv]
def noS:aI:=⟨([]:List Range),([]:List aa),([]:List Head)⟩
def wm (v:aI) (b:Batch) (w:b9):Res:=((⟨(dP w v.seen 0 b.records).1,(eX v.open_ (dP w v.seen 0 b.records).2.1).2,v.aK++[(⟨b.source,b.number,b.format,(b.records.length:Int)⟩:Head)]⟩:aI),(eX v.open_ (dP w v.seen 0 b.records).2.1).1,(dP w v.seen 0 b.records).2.2,0)
def mz (v:aI) (b:Batch) (w:b9):Res:=if yK b=0 then (if b.number=jd b.source 1 v.aK then wm v b w else (noS,[],[],20)) else (noS,[],[],yK b)
structure QH (v:aI) (b:Batch):Prop where
 AY:vA v
 seen:v.seen.length<=600
 aK:v.aK.length<=600
 opens:v.open_.length<=600
 gR:b.records.length<=100
 sm:∀ r,r∈b.records->Sm r
theorem QH.sml {v:aI} {b:Batch} (h:QH v b):SmL b.records:=λr hr=>by
 have:=h.sm r hr;unfold Sm at this;omega
theorem QH.okN {v:aI} {b:Batch} (h:QH v b):∀ x,x∈v.aK->VP x:=λx hx=>EB (C9 h.AY.aK x hx)
theorem JJ {w:b9} {l:List Range} {t:List aa} {i:Int} {r:aa} (h:r∈(dP w l i t).2.1):r∈t:=by
 rw [(H8 w t l i).2.1] at h;obtain ⟨p,h1,h2⟩:=Nw h;have:=(Gj w t i p h1).2.2.2
 rwa [h2] at this
theorem JK (w:b9) (l:List Range) (t:List aa) (i:Int):(dP w l i t).2.1.length+(dP w l i t).2.2.length<=t.length/\(dP w l i t).1.length<=l.length+t.length:=by
 obtain ⟨a,b,c⟩:=H8 w t l i;have h1:=JI (pW w i t) l;have h2:=Nv w t i;have h3:=c.length_eq;rw [zak] at h3;rw [a,b,h3];omega
theorem p_j1 (v:aI) (b:Batch) (h:QH v b) (ps:List (Int×aa)) (no:List ai) (T:Tri) (hv:∀ r,r∈ps.map (·.2)->cW r=0) (hl:ps.length+no.length<=100) (TH:T.1=(gP v.seen ps).1) (TI:T.2.1=(gP v.seen ps).2.1) (hT3:T.2.2.Perm (no++(gP v.seen ps).2.2)) (hsrt:T.2.2.Pairwise (λa b=>a.index<b.index)) (hm:∀ r,r∈T.2.1->cW r=0) (hlen:T.2.1.length+T.2.2.length<=100) :
  fD v b (ps.map (·.1),no) (ps.map (·.2))=some ((⟨T.1,(eX v.open_ T.2.1).2,v.aK++[(⟨b.source,b.number,b.format,(b.records.length:Int)⟩:Head)]⟩:aI),(eX v.open_ T.2.1).1,T.2.2,0):=by
 have hs:=h.seen;have hh:=h.aK;have ho:=h.opens;have DP:=SP (ps.map (·.1)) ps 0 (by omega) (λj hj=>by rw [show (0:Int).toNat+j=j from by omega])
 have Vh:=Nt (λi=>nth (ps.map (·.1)) i.toNat) (Mp 0 (ps.map (·.2))) v.seen
 rw [DP] at Vh;have hgl:=JI (Mp 0 (ps.map (·.2))) v.seen
 have hel:(Mp 0 (ps.map (·.2))).length=ps.length:=by
  have:=zbq List.length DP
  rwa [zdc] at this
 have hix:∀ x,x∈(gP v.seen (Mp 0 (ps.map (·.2)))).2.2->0<=x.index/\x.index<(ps.length:Int):=Nu (λp hp=>by
  have:=SQ _ _ p hp;rw [zdc] at this;omega)
 have hf:=SS v.seen (ps.map (·.2)) h.AY.can hv (by rw [zdc];omega)
 unfold fD pt iV fj nj;rw [af (by omega),af (by omega),af (by omega)];simp only [zac];rw [hf,zac];generalize gP v.seen (Mp 0 (ps.map (·.2)))=E at *
 rw [Vh] at TH TI hT3;generalize gP v.seen ps=G at *;generalize hat:ps.map (·.1)=Y8 at *
 have hal:Y8.length=ps.length:=by rw [←hat,zdc]
 have FL:fC b (v.seen,v.open_,v.aK) E (no++E.2.2.map (Y7 Y8))=some ((⟨T.1,(eX v.open_ T.2.1).2,v.aK++[(⟨b.source,b.number,b.format,(b.records.length:Int)⟩:Head)]⟩:aI),(eX v.open_ T.2.1).1,T.2.2,0):=by
  unfold fC;have e3:T.2.2.Perm (no++E.2.2.map (Y7 Y8)):=hT3;rw [Yg hsrt e3 (by rw [←e3.length_eq];omega),zac];simp only at TH TI ⊢;rw [←TH,←TI,Sz v.open_ _ h.AY.opn.wt hm (by omega),zac,af (by simp only [zam];omega)]
 exact Yh b (Y8,no) (v.seen,v.open_,v.aK) E _ (λx hx=>by have:=hix x hx;simp only;omega) (by simp only;omega) FL
theorem SU (v:aI) (b:Batch) (w:b9) (h:QH v b):mu v b w=some (mz v b w):=by
 have hs:=h.seen;have hh:=h.aK;have ho:=h.opens;have hr:=h.gR;unfold mu mz;rw [Yf b h.sml,zac];by_cases hc:yK b=0
 ·obtain ⟨k1,k2,k3,k4,k5⟩:=zo hc;rw [zab (by simp [hc]),zaa hc,Nn v _ (by omega) h.okN,zac,zaa k1];by_cases hn:b.number=jd b.source 1 v.aK
  ·rw [zab (by simp [hn]),zaa hn,SR b.records w (by omega),zac];have YQ:=Nv w b.records 0;obtain ⟨d1,d2,d3⟩:=H8 w b.records v.seen 0;have A4:=JK w v.seen b.records 0;have hL:((pW w 0 b.records).map (·.1)).map (λi=>nth b.records i.toNat)=(pW w 0 b.records).map (·.2):=by
    rw [List.map_map];refine zgh (λp hp=>?_);have:=(Gj w b.records 0 p hp).2.2.1;simpa using this
   have hvL:∀ r,r∈(pW w 0 b.records).map (·.2)->cW r=0:=λr hr=>by
    obtain ⟨p,h1,h2⟩:=zdb.1 hr;rw [←h2];exact k5 _ (Gj w b.records 0 p h1).2.2.2
   have hat:∀ i,i∈(pW w 0 b.records).map (·.1)->0<=i/\i<(b.records.length:Int):=λi hi=>by
    obtain ⟨p,h1,h2⟩:=zdb.1 hi;have:=Gj w b.records 0 p h1;rw [←h2];omega
   have hj:=p_j1 v b h (pW w 0 b.records) (nW w 0 b.records) (dP w v.seen 0 b.records) hvL (by omega) d1 d2 d3 (JG w b.records v.seen 0).2 (λr hr=>k5 r (JJ hr)) (by omega);unfold wm;generalize dP w v.seen 0 b.records=T at *;generalize nW w 0 b.records=no at *;have hll:((pW w 0 b.records).map (·.1)).length<=100000:=by rw [zdc];omega
   generalize (pW w 0 b.records).map (·.1)=Y8 at *
   generalize (pW w 0 b.records).map (·.2)=ls at *
   subst hL;exact Yi v b (Y8,no) _ hat hll hj
  ·rw [zaa (by simpa using hn),zab hn];rfl
 ·rw [zaa (by simpa using hc),zab hc];rfl
theorem SV (v:aI) (b:Batch) (w:b9) (h:QH v b):(mz v b w).1.seen.length<=10000/\(mz v b w).1.open_.length<=10000/\(mz v b w).1.aK.length<=10000/\(mz v b w).2.1.length<=10000/\(mz v b w).2.2.1.length<=10000:=by
 have hs:=h.seen;have hh:=h.aK;have ho:=h.opens;have hr:=h.gR;have A4:=JK w v.seen b.records 0;have hj:=xh v.open_ (dP w v.seen 0 b.records).2.1;unfold mz;split
 ·split
  ·simp only [wm,zak,zam];omega
  ·simp [noS]
 ·simp [noS]
theorem LH {s n f:Int} {l:List Range} (hf:f<=n) (h:∀ r,r∈l->PL s n r/\oE r) (hh:hasB l s n=false) (s' n':Int):hasB (tp s n f l) s' n'=(hasB l s' n' || decide (s=s'/\f<=n'/\n'<=n)):=by
 cases l with
 | nil=>simp [tp,hasB]
 | cons r l =>
  have hr:=h r (zah ..);have hn:¬(r.source=s/\r.from_<=n/\n<=r.ia):=by
   have:=zfa.1 hh r (zah ..);simpa using this
  have ho:=hr.2;have hp:=hr.1;unfold oE at ho;unfold PL at hp;rw [tp];unfold hasB;by_cases h3:TR s n r
  ·rw [zaa h3];unfold TR at h3;rw [zcx,zcx];generalize (l.any λr=>decide (r.source=s'/\r.from_<=n'/\n'<=r.ia))=q;rw [zbo];simp only [zbx,zaj];constructor
   ·rintro (k|k)
    ·by_cases k2:n'<=n
     ·exact .inr (by omega)
     ·exact .inl (.inl (by omega))
    ·exact .inl (.inr k)
   ·rintro ((k|k)|k)
    ·exact .inl (by omega)
    ·exact .inr k
    ·exact .inl (by omega)
  ·rw [zab h3,zcx,Bool.or_comm]
theorem LI {s n:Int}:∀ {l:List Range},Can l->hasB l s n=false->∀ s' n',hasB (mM s n l) s' n'=(hasB l s' n' || decide (s=s'/\n=n'))
 | [],_,_,s',n'=>by
  simp only [mM,hasB,zcx,zfe,zdl,zcw];rw [zbo,zbr,zbr];omega
 | r::l,hc,hh,s',n'=>by
  have ho:=hc.ok r (zah ..);have hs:=zax.1 hc.HY;have mX:=ho;unfold oE at mX;have e0:decide (s=s'/\n<=n'/\n'<=n)=decide (s=s'/\n=n'):=by rw [zbo,zbr,zbr];omega
  by_cases hp:PL s n r
  ·rw [mM,zaa hp,LH (by omega) (λx hx=>⟨by
    rcases zan.1 hx with rfl|hx
    ·exact hp
    ·exact EE (hs.1 x hx) (hc.ok x (zag _ hx)) hp,hc.ok x hx⟩) hh,e0]
  ·rw [mM,zab hp];by_cases h1:TL s n r
   ·rw [zaa h1];have Mk:=h1;unfold TL at Mk;rw [LH (by omega) (λx hx=>⟨by
     have h3:=hs.1 x hx;have h5:=hc.ok x (zag _ hx);unfold zm at h3;unfold oE at h5;unfold PL;omega,hc.ok x (zag _ hx)⟩) (B9 hh)]
    unfold hasB;rw [zcx];generalize (l.any λr=>decide (r.source=s'/\r.from_<=n'/\n'<=r.ia))=q;rw [zbo];simp only [zbx,zaj];constructor
    ·rintro (k|k)
     ·exact .inl (.inr k)
     ·by_cases k2:n'=n
      ·exact .inr (by omega)
      ·exact .inl (.inl (by omega))
    ·rintro ((k|k)|k)
     ·exact .inr (by omega)
     ·exact .inl k
     ·exact .inr (by omega)
   ·rw [zab h1];have ih:=LI hc.tail (B9 hh) s' n';unfold hasB at ih ⊢;rw [zcx,zcx,ih,Bool.or_assoc]
theorem LJ {s n f:Int} {l:List Range} (k:Int):jP k (tp s n f l)=jP k l+(if s=k then n-f+1 else 0):=by
 cases l with
 | nil=>simp [tp,jP]
 | cons r l =>
  rw [tp];by_cases h3:TR s n r
  ·rw [zaa h3];unfold TR at h3;simp only [jP];by_cases hk:s=k
   ·rw [zaa hk,zaa (by omega),zaa hk];omega
   ·rw [zab hk,zab (by omega),zab hk];omega
  ·rw [zab h3];simp only [jP];omega
theorem LK {s n:Int} (k:Int):∀ (l:List Range),jP k (mM s n l)=jP k l+(if s=k then 1 else 0)
 | []=>by simp only [mM,jP];split <;> omega
 | r::l=>by
  rw [mM];by_cases hp:PL s n r
  ·rw [zaa hp,LJ];split <;> omega
  ·rw [zab hp];by_cases h1:TL s n r
   ·rw [zaa h1,LJ];unfold TL at h1;simp only [jP];by_cases hk:s=k
    ·rw [zaa hk,zaa hk,zaa (by omega)];omega
    ·rw [zab hk,zab hk,zab (by omega)];omega
   ·rw [zab h1];simp only [jP,LK k l];omega
def NS (a b:aa):Prop:=¬(a.source=b.source/\a.az=b.az)
theorem EG {a b:aa} (h:NS a b):NS b a:=λk=>h ⟨k.1.symm,k.2.symm⟩
theorem OL (l:List Range):∀ (t d:List aa),Qg l d t=true↔(∀ r,r∈t->hasB l r.source r.az=true/\B5 r.source r.az=true)/\(∀ a,a∈d->∀ r,r∈t->NS a r)/\t.Pairwise NS
 | [],d=>by simp [Qg]
 | r::t,d=>by
  rw [Qg,zaq,zaq,zaq,OL l t (d++[r])];have e:(!(d.any λx=>qI x r))=true↔∀ a,a∈d->NS a r:=by
   rw [zdk,zfa];simp only [qI,zaq,zaj];exact Iff.rfl
  rw [e,zax];constructor
  ·rintro ⟨⟨⟨h1,h2⟩,h3⟩,h4,h5,h6⟩;refine ⟨λx hx=>?_,λa ha x hx=>?_,λx hx=>h5 r (by simp) x hx,h6⟩
   ·rcases zan.1 hx with rfl|hx
    ·exact ⟨h1,h2⟩
    ·exact h4 x hx
   ·rcases zan.1 hx with rfl|hx
    ·exact h3 a ha
    ·exact h5 a (zck _ ha) x hx
  ·rintro ⟨h1,h2,h3,h4⟩;refine ⟨⟨h1 r (zah ..),λa ha=>h2 a ha r (zah ..)⟩,λx hx=>h1 x (zag _ hx),λa ha x hx=>?_,h4⟩;rcases zbb.1 ha with ha|ha
   ·exact h2 a ha x (zag _ hx)
   ·simp at ha;subst ha;exact h3 x hx
theorem EI (l:List Range) (t:List aa):Qg l [] t=true↔(∀ r,r∈t->hasB l r.source r.az=true/\B5 r.source r.az=true)/\t.Pairwise NS:=by
 rw [OL];simp
theorem SX {now:List aa} {r:aa} (h:now.Pairwise NS) (hr:∀ a,a∈now->NS a r):(jH now r).2.Pairwise NS/\∀ x,x∈(jH now r).2->x=r∨x∈now:=by
 unfold jH;split
 ·exact ⟨h,λx hx=>.inr hx⟩
 ·have hi:(pn now r).Pairwise NS:=((wg now r).pairwise_iff EG).2 (zax.2 ⟨λa ha=>EG (hr a ha),h⟩);have UK:=C7 r (now.length+2) (pn now r);exact ⟨hi.sublist UK,λx hx=>BY.1 (UK.subset hx)⟩
theorem LL:∀ {l now:List aa},(now++l).Pairwise NS->(eX now l).2.Pairwise NS/\∀ x,x∈(eX now l).2->x∈now++l
 | [],now,h=>by
  rw [zbn] at h;exact ⟨h,λx hx=>by simpa [eX] using hx⟩
 | r::l,now,h=>by
  have h':=zea.1 h;obtain ⟨k1,k2⟩:=SX h'.1 (λa ha=>h'.2.2 a ha r (zah ..));have hl:=zax.1 h'.2.1;have:((jH now r).2++l).Pairwise NS:=zea.2 ⟨k1,hl.2,λa ha b hb=>by
   rcases k2 a ha with rfl|ha
   ·exact hl.1 b hb
   ·exact h'.2.2 a ha b (zag _ hb)⟩
  obtain ⟨m1,m2⟩:=LL this;simp only [eX];refine ⟨m1,λx hx=>?_⟩;rcases zbb.1 (m2 x hx) with hx|hx
  ·rcases k2 x hx with rfl|hx
   ·simp
   ·simp [hx]
  ·simp [hx]
theorem zp (w:b9):∀ (t:List aa) (l:List Range) (i:Int),Can l->(∀ r,r∈t->cW r=0)->Can (dP w l i t).1/\(∀ s n,hasB l s n=true->hasB (dP w l i t).1 s n=true)/\(∀ r,r∈(dP w l i t).2.1->hasB (dP w l i t).1 r.source r.az=true/\hasB l r.source r.az=false)/\(dP w l i t).2.1.Pairwise NS/\(∀ r,r∈t->Hg w r->hasB (dP w l i t).1 r.source r.az=true)
 | [],l,i,hc,_=>⟨hc,λ_ _ h=>h,by simp [dP],by simp [dP],by simp⟩
 | r::t,l,i,hc,hv=>by
  have hid:=JF (hv r (zah ..));have GG:∀ x,x∈t->cW x=0:=λx hx=>hv x (zag _ hx)
  by_cases hw:Hg w r
  ·by_cases hh:hasB l r.source r.az=false
   ·obtain ⟨a1,a2,a3,a4,a5⟩:=zp w t (mM r.source r.az l) (i+1) (Gh hid hc hh).1 GG;have UL:=LI hc hh;have SY:hasB (mM r.source r.az l) r.source r.az=true:=by rw [UL];simp
    simp only [dP,zaa hw,zaa hh];refine ⟨a1,λs n h=>a2 s n (by rw [UL,h,zdv]),λx hx=>?_,zax.2 ⟨λx hx k=>?_,a4⟩,λx hx Y9=>?_⟩
    ·rcases zan.1 hx with rfl|hx
     ·exact ⟨a2 _ _ SY,hh⟩
     ·have:=a3 x hx;rw [UL,zge] at this;exact ⟨this.1,this.2.1⟩
    ·have:=(a3 x hx).2;rw [←k.1,←k.2,SY] at this;cases this
    ·rcases zan.1 hx with rfl|hx
     ·exact a2 _ _ SY
     ·exact a5 x hx Y9
   ·obtain ⟨a1,a2,a3,a4,a5⟩:=zp w t l (i+1) hc GG;simp only [dP,zaa hw,zab hh];refine ⟨a1,a2,a3,a4,λx hx Y9=>?_⟩;rcases zan.1 hx with rfl|hx
    ·exact a2 _ _ (by simpa using hh)
    ·exact a5 x hx Y9
  ·obtain ⟨a1,a2,a3,a4,a5⟩:=zp w t l (i+1) hc GG;simp only [dP,zab hw];refine ⟨a1,a2,a3,a4,λx hx Y9=>?_⟩;rcases zan.1 hx with rfl|hx
   ·exact absurd Y9 hw
   ·exact a5 x hx Y9
theorem LM {s:Int}:∀ {l:List aa},JE s l=0->∀ r,r∈l->r.source=s
 | [],_,r,h=>by cases h
 | x::l,hc,r,h=>by
  rw [JE] at hc;by_cases he:cW x=0
  ·rw [zaa he] at hc;by_cases hs:x.source=s
   ·rw [zaa hs] at hc;rcases zan.1 h with rfl|h
    ·exact hs
    ·exact LM hc r h
   ·rw [zab hs] at hc;omega
  ·rw [zab he] at hc;exact absurd hc he
theorem SZ {b:Batch} (h:yK b=0):∀ r,r∈b.records->r.source=b.source:=by
 unfold yK at h;by_cases h1:LB b.source b.number b.format=0
 ·rw [zaa h1] at h;by_cases h2:4096<b.records.length
  ·rw [zaa h2] at h;omega
  ·rw [zab h2] at h;exact LM h
 ·rw [zab h1] at h;exact absurd h h1
theorem JL (w:b9) (s k:Int):∀ (t:List aa) (l:List Range) (i:Int),(∀ r,r∈t->r.source=s)->jP k (dP w l i t).1=jP k l+(if s=k then ((dP w l i t).2.1.length:Int) else 0)
 | [],l,i,_=>by simp [dP]
 | r::t,l,i,h=>by
  have hr:=h r (zah ..);have h':∀ x,x∈t->x.source=s:=λx hx=>h x (zag _ hx)
  by_cases hw:Hg w r
  ·by_cases hh:hasB l r.source r.az=false
   ·have ih:=JL w s k t (mM r.source r.az l) (i+1) h';simp only [dP,zaa hw,zaa hh,zai];rw [ih,LK,hr];by_cases hk:s=k
    ·simp only [zaa hk];omega
    ·simp only [zab hk];omega
   ·simp only [dP,zaa hw,zab hh];exact JL w s k t l (i+1) h'
  ·simp only [dP,zab hw];exact JL w s k t l (i+1) h'
theorem LN:∀ {l d:List Head} {h:Head},Gd d l=true->xR h->h.number=jd h.source 1 (d++l)->Gd d (l++[h])=true
 | [],d,h,_,ho,hn=>by
  rw [zbn] at hn;simp only [zcc,Gd,zeu,zaj];exact ⟨ho,hn⟩
 | x::l,d,h,hb,ho,hn=>by
  simp only [Gd,List.cons_append,zaq] at hb ⊢;refine ⟨hb.1,LN hb.2 ho ?_⟩;rw [hn];simp
theorem S0 {v:aI} {b:Batch} {w:b9} (h:QH v b) (hc:yK b=0) (hn:b.number=jd b.source 1 v.aK):vA (wm v b w).1:=by
 obtain ⟨k1,k2,k3,k4,k5⟩:=zo hc;obtain ⟨a1,a2,a3,a4,a5⟩:=zp w b.records v.seen 0 h.AY.can k5;have hfv:∀ r,r∈(dP w v.seen 0 b.records).2.1->cW r=0:=λr hr=>k5 r (JJ hr)
 have Nx:=(EI _ _).1 h.AY.ids;have A4:=JK w v.seen b.records 0;refine ⟨LN h.AY.aK ?_ (by simpa using hn),a1,C5 h.AY.opn hfv,?_,?_⟩
 ·unfold xR;simp only;omega
 ·rw [EF];intro k _ _;have h1:=(EF _ _ _ _).1 h.AY.Gy k (by omega) (by omega);show jP k (dP w v.seen 0 b.records).1<=pV k (v.aK++[_]);rw [JL w b.source k b.records v.seen 0 (SZ hc),Da];simp only;split <;> omega
 ·rw [EI];have hns:(v.open_++(dP w v.seen 0 b.records).2.1).Pairwise NS:=zea.2 ⟨Nx.2,a4,λx hx y hy k=>by
   have h1:=(Nx.1 x hx).1;have h2:=(a3 y hy).2;rw [k.1,k.2,h2] at h1;cases h1⟩
  obtain ⟨m1,m2⟩:=LL hns;refine ⟨λr hr=>?_,m1⟩;rcases zbb.1 (m2 r hr) with hx|hx
  ·exact ⟨a2 _ _ (Nx.1 r hx).1,(Nx.1 r hx).2⟩
  ·exact ⟨(a3 r hx).1,JF (hfv r hx)⟩
def rjW (w:b9) (r:aa) (i:Int):ai:=TN r i (if Hg w r then 13 else 15)
def UM (w:b9):Int->List aa->List ai
 | _,[]=>[]
 | i,r::t=>rjW w r i::UM w (i+1) t
theorem S3 (w:b9):∀ (t:List aa) (l:List Range) (i:Int),(∀ r,r∈t->Hg w r->hasB l r.source r.az=true)->dP w l i t=(l,[],UM w i t)
 | [],l,i,_=>rfl
 | r::t,l,i,h=>by
  have ih:=S3 w t l (i+1) (λx hx=>h x (zag _ hx));by_cases hw:Hg w r
  ·have hh:=h r (zah ..) hw;simp only [dP,zaa hw,UM,rjW,ih,hh,zfl,zbs]
  ·simp only [dP,zab hw,UM,rjW,ih]
theorem OM (w:b9):∀ (t:List aa) (i:Int),(UM w i t).length=t.length
 | [],_=>rfl
 | r::t,i=>by simp [UM,OM w t]
theorem Ny {s:Int} {l:List aa} (b c:Batch) (hs:c.source=b.source) (hf:c.format=b.format) (hr:c.records=b.records) (hn:1<=c.number/\c.number<=999999999) (h:yK b=0):yK c=0:=by
 obtain ⟨k1,k2,k3,k4,k5⟩:=zo h;unfold yK at h ⊢;have e1:LB b.source b.number b.format=0:=by unfold LB;rw [zab (by omega),zab (by omega)]
 have e2:LB c.source c.number c.format=0:=by unfold LB;rw [zab (by omega),zab (by omega)]
 rw [zaa e1,zab (by omega)] at h;rw [zaa e2,hr,hs,zab (by omega)];exact h
structure RunI (V:aI) (i:Int):Prop where
 AY:vA V
 seen:(V.seen.length:Int)<=40*i
 aK:(V.aK.length:Int)<=i
 opens:(V.open_.length:Int)<=40*i
theorem RunI.next {V:aI} {i:Int} (h:RunI V i) (hi:i<=12) (s:Int):hG V s=some (if 1<=s/\s<=99 then jd s 1 V.aK else 0) :=
 Nn V s (by have:=h.aK;omega) (λx hx=>EB (C9 h.AY.aK x hx))
def wo {α:Type} (lt:α->α->Bool) (x:α):List α->List α
 | []=>[x]
 | y::t=>if lt y x=true then y::wo lt x t else x::y::t
theorem Cb {α:Type} (lt:α->α->Bool) (x:α):∀ (l:List α),(wo lt x l).length=l.length+1
 | []=>rfl
 | y::t=>by
  unfold wo;split
  ·rw [zai,Cb lt x t,zai]
  ·rfl
theorem EJ {α:Type} (lt:α->α->Bool) (x:α):∀ (l:List α) (z:α),z∈wo lt x l↔z=x∨z∈l
 | [],z=>by simp [wo]
 | y::t,z=>by
  unfold wo;split
  ·rw [zan,EJ lt x t z,zan];constructor
   ·rintro (h|h|h)
    ·exact .inr (.inl h)
    ·exact .inl h
    ·exact .inr (.inr h)
   ·rintro (h|h|h)
    ·exact .inr (.inl h)
    ·exact .inl h
    ·exact .inr (.inr h)
  ·rw [zan]
theorem Gk {α:Type} [Inhabited α] {step:Int->Option (Int ⊕ List α)} (l:List α) (x:α) (lt:α->α->Bool) (hl:l.length<=100000)
  (h:∀ i:Int,0<=i->i<=(l.length:Int)->step i=if i<(l.length:Int)/\lt (nth l i.toNat) x=true then some (.inl (i+1)) else some (.inr ((l.take i.toNat++[x])++l.drop i.toNat))):loop step 0=some (wo lt x l):=by
 have:=bj (step:=step) l (λi:Int=>i) (λi t=>some (l.take i.toNat++wo lt x t)) (λi t=>l.drop i.toNat=t/\0<=i) (by omega) ?_ ?_ (s:=0) rfl ⟨by simp,by omega⟩
 ·rw [this];simp
 ·rintro i ⟨h1,h2⟩ h3;refine ⟨(l.take i.toNat++[x])++l.drop i.toNat,?_,?_⟩
  ·rw [h i h2 (by omega),zab (by omega)]
  ·rw [h1];simp [wo]
 ·rintro i a t ⟨h1,h2⟩ h3 h4 h5 h6;by_cases cJ:lt a x=true
  ·refine .inr ⟨i+1,?_,⟨?_,by omega⟩,rfl,?_⟩
   ·rw [h i h2 (by omega),zaa ⟨h4,by rw [h5];exact cJ⟩]
   ·rw [show (i+1).toNat=i.toNat+1 from by omega,←List.drop_drop,h1];rfl
   ·rw [show (i+1).toNat=i.toNat+1 from by omega,mi (by omega),h5];simp [wo,cJ]
  ·refine .inl ⟨(l.take i.toNat++[x])++l.drop i.toNat,?_,?_⟩
   ·rw [h i h2 (by omega),zab (by rw [h5];exact λk=>cJ k.2)]
   ·rw [h1];simp [wo,cJ]
def Hh (a b:Int):Bool:=decide (a<b)
theorem LO (l:List Int) (x:Int) (hl:l.length<=100000):fO l x=some (wo Hh x l):=by
 unfold fO;refine Gk l x Hh hl λi h0 h1=>?_
 unfold lx;rw [af (λk=>⟨h0,by simpa using k⟩)];have hj:eI l x i=some ((l.take i.toNat++[x])++l.drop i.toNat):=by
  unfold eI;have e1:(l.take i.toNat).length<=l.length:=zgf ..;have e2:(l.drop i.toNat).length<=l.length:=by rw [zbg];omega
  rw [af ⟨h0,h1⟩,af (by omega),af (by rw [zam];omega),af ⟨h0,h1⟩,af (by rw [zak,zam];omega)]
 rw [hj];by_cases hc:i<(l.length:Int)/\Hh (nth l i.toNat) x=true
 ·rw [zaa hc,zaa (by simp only [zaq,zaj];exact ⟨hc.1,by simpa [Hh] using hc.2⟩),af ⟨by omega,by omega⟩]
 ·rw [zab hc,zab (λk=>hc (by simp only [zaq,zaj] at k;exact ⟨k.1,by simpa [Hh] using k.2⟩))];rfl
theorem LP (l:List (List UInt8)) (x:List UInt8) (hl:l.length<=100000):eJ l x=some (wo oI x l):=by
 unfold eJ;refine Gk l x oI hl λi h0 h1=>?_
 unfold ju;rw [af (λk=>⟨h0,by simpa using k⟩)];have hj:dK l x i=some ((l.take i.toNat++[x])++l.drop i.toNat):=by
  unfold dK;have e1:(l.take i.toNat).length<=l.length:=zgf ..;have e2:(l.drop i.toNat).length<=l.length:=by rw [zbg];omega
  rw [af ⟨h0,h1⟩,af (by omega),af (by rw [zam];omega),af ⟨h0,h1⟩,af (by rw [zak,zam];omega)]
 rw [hj];by_cases hc:i<(l.length:Int)/\oI (nth l i.toNat) x=true
 ·rw [zaa hc,zaa (by simp only [zaq,zaj];exact hc),af ⟨by omega,by omega⟩]
 ·rw [zab hc,zab (λk=>hc (by simpa only [zaq,zaj] using k))];rfl
theorem S4 (l:List (List UInt8)) (x:List UInt8) (hl:l.length<=100000):rm l x=some (wo oI x l):=by
 unfold rm;refine Gk l x oI hl λi h0 h1=>?_
 unfold vl;rw [af (λk=>⟨h0,by simpa using k⟩)];have hj:mH l x i=some ((l.take i.toNat++[x])++l.drop i.toNat):=by
  unfold mH;have e1:(l.take i.toNat).length<=l.length:=zgf ..;have e2:(l.drop i.toNat).length<=l.length:=by rw [zbg];omega
  simp only [zcc,zbh,zca];rw [af ⟨h0,h1⟩,af (by omega),af (by rw [zam];omega),af ⟨h0,h1⟩,af (by rw [zak,zam];omega)]
 rw [hj];by_cases hc:i<(l.length:Int)/\oI (nth l i.toNat) x=true
 ·rw [zaa hc,zaa (by simp only [zaq,zaj];exact hc),af ⟨by omega,by omega⟩]
 ·rw [zab hc,zab (λk=>hc (by simpa only [zaq,zaj] using k))];rfl
def Hi (x:List UInt8) (l:List (List UInt8)):List (List UInt8):=l.filter (· != x)
theorem LQ {step:List (List UInt8)×Int->Option ((List (List UInt8)×Int) ⊕ List (List UInt8))} (l:List (List UInt8)) (x:List UInt8) (hl:l.length<=100000)
  (h:∀ (o:List (List UInt8)) (i:Int),0<=i->i<=(l.length:Int)->(o.length:Int)<=i->step (o,i)=if i<(l.length:Int) then some (.inl (if (nth l i.toNat != x)=true then o++[nth l i.toNat] else o,i+1)) else some (.inr o)):loop step ([],0)=some (Hi x l):=by
 have:=bj (step:=step) l (λs=>s.2) (λs t=>some (s.1++Hi x t)) (λs t=>0<=s.2/\s.2<=(l.length:Int)/\(s.1.length:Int)<=s.2) (by omega) ?_ ?_ (s:=([],0)) rfl ⟨by simp,by simp,by simp⟩
 ·rw [this];simp
 ·rintro ⟨o,i⟩ ⟨h1,h2,h3⟩ h4;refine ⟨o,?_,?_⟩
  ·rw [h o i h1 h2 h3,zab (by simp only at h4;omega)]
  ·simp [Hi]
 ·rintro ⟨o,i⟩ a t ⟨h1,h2,h3⟩ h4 h5 h6 h7;simp only at h1 h2 h3 h4 h5 h6 h7;refine .inr ⟨(if (nth l i.toNat != x)=true then o++[nth l i.toNat] else o,i+1),?_,⟨by simp only;omega,by simp only;omega,?_⟩,rfl,?_⟩
  ·rw [h o i h1 h2 h3,zaa h5]
  ·simp only;split
   ·rw [zak,zam];omega
   ·omega
  ·simp only;rw [h6];unfold Hi;rw [zbk];split <;> simp
theorem LR (l:List (List UInt8)) (x:List UInt8) (hl:l.length<=100000):iB l x=some (Hi x l):=by
 unfold iB;refine LQ l x hl λo i h0 h1 h2=>?_
 unfold nq;by_cases hi:i<(l.length:Int)
 ·rw [zaa (by simpa using hi),zaa hi,af ⟨h0,hi⟩];split
  ·rw [af (by simp only [zam];omega),af ⟨by omega,by omega⟩]
  ·rw [af ⟨by omega,by omega⟩]
 ·rw [zab (by simpa using hi),zab hi]
theorem Ia (l:List (List UInt8)) (x:List UInt8) (hl:l.length<=100000):mI l x=some (Hi x l):=by
 unfold mI;refine LQ l x hl λo i h0 h1 h2=>?_
 unfold rn;by_cases hi:i<(l.length:Int)
 ·rw [zaa (by simpa using hi),zaa hi,af ⟨h0,hi⟩];split
  ·rw [af ⟨h0,hi⟩,af (by simp only [zam];omega),af ⟨by omega,by omega⟩]
  ·rw [af ⟨by omega,by omega⟩]
 ·rw [zab (by simpa using hi),zab hi]
theorem ON (x:List UInt8) (l:List (List UInt8)):(Hi x l).length<=l.length:=List.length_filter_le ..
abbrev W7:=(List Int)×(List Int)×(List (Int×al))×(List (Int×Sub))×(List (Int×Bool))×(List ((List UInt8)×Int))×(List (Int×Int))
abbrev u6:Sub:=⟨0,0,0,([]:List UInt8),([]:List (List UInt8)),([]:List (List UInt8)),false,false⟩
section maps
variable {κ α:Type} [BEq κ] [LawfulBEq κ]
theorem nY (p:κ×α) (l:List (κ×α)) (k:κ):aC (p::l) k=if k==p.1 then some p.2 else aC l k:=by
 unfold aC;rw [List.find?_cons];split <;> simp_all
theorem Gl (p:κ×α) (l:List (κ×α)) (k:κ):eb (p::l) k=if k==p.1 then some 0 else (eb l k).map (·+1):=by
 unfold eb;rw [List.findIdx?_cons]
theorem Db (p:κ×α) (l:List (κ×α)) (k:κ) (v:α):c8 (p::l) k v=if k==p.1 then (k,v)::l else p::c8 l k v:=by
 unfold c8;rw [Gl];by_cases h:(k==p.1)=true
 ·rw [zaa h,zaa h];rfl
 ·rw [zab h,zab h];cases eb l k <;> rfl
theorem yL (p:κ×α) (l:List (κ×α)) (k:κ):fz (p::l) k=if k==p.1 then l else p::fz l k:=by
 unfold fz;rw [Gl];by_cases h:(k==p.1)=true
 ·rw [zaa h,zaa h];rfl
 ·rw [zab h,zab h];cases eb l k <;> rfl
theorem dW (k:κ) (v:α) (k':κ):∀ (l:List (κ×α)),aC (c8 l k v) k'=if k'==k then some v else aC l k'
 | []=>by
  show aC [(k,v)] k'=_;rw [nY]
 | p::l=>by
  have ih:=dW k v k' l;rw [Db];by_cases h:(k==p.1)=true
  ·have e:=eq_of_beq h;rw [zaa h,nY,nY,←e];by_cases h2:(k'==k)=true
   ·rw [zaa h2,zaa h2]
   ·rw [zab h2,zab h2,zab h2]
  ·rw [zab h,nY,nY,ih];by_cases h2:(k'==k)=true
   ·have e:=eq_of_beq h2;rw [zaa h2,zab (by rw [e];exact h),zaa h2]
   ·rw [zab h2,zab h2]
theorem Ib (k:κ) (v:α) (z:κ):∀ (l:List (κ×α)),z∈(c8 l k v).map (·.1)↔z=k∨z∈l.map (·.1)
 | []=>by simp [c8,eb]
 | p::l=>by
  rw [Db];split
  ·rename_i h;have e:=eq_of_beq h;simp [e]
  ·rw [zap,zan,Ib k v z l,zap,zan];constructor
   ·rintro (h|h|h)
    ·exact .inr (.inl h)
    ·exact .inl h
    ·exact .inr (.inr h)
   ·rintro (h|h|h)
    ·exact .inr (.inl h)
    ·exact .inl h
    ·exact .inr (.inr h)
theorem xi (k:κ) (v:α):∀ {l:List (κ×α)},(l.map (·.1)).Nodup->((c8 l k v).map (·.1)).Nodup
 | [],_=>by simp [c8,eb]
 | p::l,h=>by
  rw [zap,zcd] at h;rw [Db];split
  ·rename_i e;rw [zap,zcd,show k=p.1 from eq_of_beq e];exact h
  ·rename_i e;rw [zap,zcd];refine ⟨λhm=>?_,xi k v h.2⟩;rcases (Ib k v p.1 l).1 hm with h1|h1
   ·exact e (by rw [h1];exact zee k)
   ·exact h.1 h1
theorem Gm (k:κ) (z:κ):∀ (l:List (κ×α)),z∈(fz l k).map (·.1)->z∈l.map (·.1)
 | [],h=>by simp [fz,eb] at h
 | p::l,h=>by
  rw [yL] at h;split at h
  ·exact zag _ h
  ·rw [zap,zan] at h ⊢;exact h.imp id (Gm k z l)
theorem Cc (k:κ):∀ {l:List (κ×α)},(l.map (·.1)).Nodup->((fz l k).map (·.1)).Nodup
 | [],_=>by simp [fz,eb]
 | p::l,h=>by
  rw [zap,zcd] at h;rw [yL];split
  ·exact h.2
  ·rw [zap,zcd];exact ⟨λhm=>h.1 (Gm k _ l hm),Cc k h.2⟩
theorem tq (k k':κ):∀ {l:List (κ×α)},(l.map (·.1)).Nodup->aC (fz l k) k'=if k'==k then none else aC l k'
 | [],_=>by
  have:fz ([]:List (κ×α)) k=[]:=rfl;rw [this];unfold aC;simp
 | p::l,h=>by
  rw [zap,zcd] at h;rw [yL];by_cases e:(k==p.1)=true
  ·have e':=eq_of_beq e;rw [zaa e];by_cases h2:(k'==k)=true
   ·rw [zaa h2,MI];rw [eq_of_beq h2,e'];exact h.1
   ·rw [zab h2,nY,←e',zab h2]
  ·rw [zab e,nY,nY,tq k k' h.2];by_cases h2:(k'==k)=true
   ·rw [zaa h2,zab (by rw [eq_of_beq h2];exact e),zaa h2]
   ·rw [zab h2,zab h2]
end maps
def apO (e:Event) (w:W7):Option W7:=eZ e w.1 w.2.1 w.2.2.1 w.2.2.2.1 w.2.2.2.2.1 w.2.2.2.2.2.1 w.2.2.2.2.2.2
def OO (s:Sub) (e:Event):Sub :=
 if e.kind=5 then { s with numbers:=wo oI e.number s.numbers }
 else if e.kind=6 then { s with numbers:=Hi e.number s.numbers }
 else if e.kind=7 then { s with vS:=e.name }
 else if e.kind=8 then { s with cA:=wo oI e.name s.cA }
 else if e.kind=9 then { s with cA:=Hi e.name s.cA }
 else if e.kind=10 then { s with bn:=true }
 else if e.kind=11 then { s with bn:=false }
 else if e.kind=12 then { s with family:=true }
 else if e.kind=13 then { s with family:=false }
 else s
def AZ (e:Event):Sub:=⟨e.sub,e.aq,e.at_,e.name,[],[],false,false⟩
def S5 (e:Event) (w:W7):List Int:=if e.kind=3/\(aC w.2.2.2.2.1 e.sub).getD false=false then wo Hh e.sub w.2.1 else w.2.1
def evF (e:Event) (w:W7):List (Int×Bool):=if e.kind=3 then c8 w.2.2.2.2.1 e.sub true else w.2.2.2.2.1
def Ql (e:Event) (w:W7):List (Int×Sub) :=
 if e.kind=3 then c8 w.2.2.2.1 e.sub (AZ e)
 else if e.kind=4 then fz w.2.2.2.1 e.sub
 else if e.kind=1∨e.kind=2∨e.kind=14∨e.kind=15 then w.2.2.2.1
 else match aC w.2.2.2.1 e.sub with
  | some s=>c8 w.2.2.2.1 e.sub (OO s e)
  | none=>w.2.2.2.1
structure WB (n:Nat) (w:W7):Prop where
 opened:w.1.length<=n
 added:w.2.1.length<=n
 nums:∀ k s,aC w.2.2.2.1 k=some s->s.numbers.length<=n/\s.cA.length<=n
 live:∀ k,-(n:Int)<=(aC w.2.2.2.2.2.2 k).getD 0/\(aC w.2.2.2.2.2.2 k).getD 0<=(n:Int)
 keys:(w.2.2.2.1.map (·.1)).Nodup
theorem WB.up {n:Nat} {w:W7} (h:WB n w):WB (n+1) w:=⟨by have:=h.opened;omega,by have:=h.added;omega,λk s hs=>by have:=h.nums k s hs;omega,λk=>by have:=h.live k;omega,h.keys⟩
theorem Qm (s:Sub) (e:Event) (a b:List Int) (c:List (Int×al)) (d:List (Int×Sub)) (f:List (Int×Bool)) (o:List ((List UInt8)×Int)) (l:List (Int×Int)) (h1:s.numbers.length<=100000) (h2:s.cA.length<=100000) :
  ∃ o',fk s e a b c d f o l=some (OO s e,o'):=by
 unfold fk OO;by_cases k5:e.kind=5
 ·rw [zaa (by simpa using k5),LP _ _ h1,zaa k5];exact ⟨_,rfl⟩
 rw [zab (by simpa using k5),zab k5];by_cases k6:e.kind=6
 ·rw [zaa (by simpa using k6),LR _ _ h1,zaa k6];exact ⟨_,rfl⟩
 rw [zab (by simpa using k6),zab k6];by_cases k7:e.kind=7
 ·rw [zaa (by simpa using k7),zaa k7];exact ⟨_,rfl⟩
 rw [zab (by simpa using k7),zab k7];by_cases k8:e.kind=8
 ·rw [zaa (by simpa using k8),LP _ _ h2,zaa k8];exact ⟨_,rfl⟩
 rw [zab (by simpa using k8),zab k8];by_cases k9:e.kind=9
 ·rw [zaa (by simpa using k9),LR _ _ h2,zaa k9];exact ⟨_,rfl⟩
 rw [zab (by simpa using k9),zab k9];by_cases Bm:e.kind=10
 ·rw [zaa (by simpa using Bm),zaa Bm];exact ⟨_,rfl⟩
 rw [zab (by simpa using Bm),zab Bm];by_cases LS:e.kind=11
 ·rw [zaa (by simpa using LS),zaa LS];exact ⟨_,rfl⟩
 rw [zab (by simpa using LS),zab LS];by_cases UN:e.kind=12
 ·rw [zaa (by simpa using UN),zaa UN];exact ⟨_,rfl⟩
 rw [zab (by simpa using UN),zab UN];by_cases UO:e.kind=13
 ·rw [zaa (by simpa using UO),zaa UO];exact ⟨_,rfl⟩
 rw [zab (by simpa using UO),zab UO];exact ⟨_,rfl⟩
theorem OP (s:Sub) (e:Event):(OO s e).numbers.length<=s.numbers.length+1/\(OO s e).cA.length<=s.cA.length+1:=by
 unfold OO;have a:=Cb oI e.number s.numbers;have b:=Cb oI e.name s.cA;have c:=ON e.number s.numbers;have d:=ON e.name s.cA
 repeat' split
 all_goals first|omega|(simp only;omega)
theorem JM (n:Nat) (e:Event) (w:W7) (h:WB n w) (hn:n<=10000):∃ w',apO e w=some w'/\WB (n+1) w'/\w'.2.1=S5 e w/\w'.2.2.2.1=Ql e w/\w'.2.2.2.2.1=evF e w:=by
 obtain ⟨op,ad,ac,su,ev,ow,li⟩:=w;have h1:=h.opened;have h2:=h.added;have h3:=h.nums;have h4:=h.live;have h5:=h.keys;simp only at h1 h2 h3 h4 h5;have up:=h.up;unfold apO S5 Ql evF;simp only;have Yj:=up.opened;have TB:=up.added;have Yk:=up.nums;have Yl:=up.live;simp only at Yj TB Yk Yl;unfold eZ;by_cases k1:e.kind=1
 ·have n3:¬e.kind=3:=by omega
  have n4:¬e.kind=4:=by omega
  rw [zaa (by simpa using k1)];simp only [n3,n4,k1,false_and,zbs,true_or,zbt];split
  ·rw [LO _ _ (by omega),zac];unfold dp;exact ⟨_,rfl,⟨by simp only [Cb];omega,TB,Yk,Yl,h5⟩,rfl,rfl,rfl⟩
  ·unfold dp;exact ⟨_,rfl,⟨Yj,TB,Yk,Yl,h5⟩,rfl,rfl,rfl⟩
 rw [zab (by simpa using k1)];by_cases k2:e.kind=2
 ·have n3:¬e.kind=3:=by omega
  have n4:¬e.kind=4:=by omega
  rw [zaa (by simpa using k2)];simp only [n3,n4,k2,false_and,zbs,true_or,or_true,zbt];exact ⟨_,rfl,⟨Yj,TB,Yk,Yl,h5⟩,rfl,rfl,rfl⟩
 rw [zab (by simpa using k2)];by_cases k3:e.kind=3
 ·rw [zaa (by simpa using k3)];simp only [k3,true_and,zbt];have hl:cV ((aC li e.aq).getD 0+1):=by have:=h4 e.aq;exact ⟨by omega,by omega⟩
  have VS:∀ k,-((n+1:Nat):Int)<=(aC (c8 li e.aq ((aC li e.aq).getD 0+1)) k).getD 0/\(aC (c8 li e.aq ((aC li e.aq).getD 0+1)) k).getD 0<=((n+1:Nat):Int):=λk=>by
   rw [dW];split
   ·have:=h4 e.aq;simp only [zcq];omega
   ·exact Yl k
  have LU:∀ k s,aC (c8 su e.sub (⟨e.sub,e.aq,e.at_,e.name,([]:List (List UInt8)),([]:List (List UInt8)),false,false⟩:Sub)) k=some s->s.numbers.length<=n+1/\s.cA.length<=n+1:=λk s hs=>by
   rw [dW] at hs;split at hs
   ·cases hs;simp
   ·exact Yk k s hs
  by_cases NR:(aC ev e.sub).getD false=false
  ·rw [zaa (by rw [NR];rfl),LO _ _ (by omega),zac,zaa NR];unfold dq;rw [af hl];exact ⟨_,rfl,⟨Yj,by simp only [Cb];omega,LU,VS,xi _ _ h5⟩,rfl,rfl,rfl⟩
  ·rw [zab (by simpa using NR),zab NR];unfold dq;rw [af hl];exact ⟨_,rfl,⟨Yj,TB,LU,VS,xi _ _ h5⟩,rfl,rfl,rfl⟩
 rw [zab (by simpa using k3)];simp only [k3,false_and,zbs];by_cases k4:e.kind=4
 ·rw [zaa (by simpa using k4)];simp only [k4,zbt];have WC:((aC su e.sub).getD u6).numbers.length<=n:=by
   cases hs:aC su e.sub with
   | none=>simp [u6]
   | some s=>exact (h3 _ _ hs).1
  have key:∀ o,∃ o',loop (λs:Int×List ((List UInt8)×Int)=>fa e op ad ac su ev li s.1 s.2) (0,o)=cH e op ad ac su ev li o':=λo=>by
   refine ⟨((aC su e.sub).getD u6).numbers.foldl fz o,?_⟩;have hF:∀ o,∃ r,cH e op ad ac su ev li o=some r:=λo=>by
    unfold cH;have hl:cV ((aC li ((aC su e.sub).getD u6).aq).getD 0-1):=by have:=h4 ((aC su e.sub).getD u6).aq;exact ⟨by omega,by omega⟩
    rw [af hl];exact ⟨_,rfl⟩
   refine bj ((aC su e.sub).getD u6).numbers (λs=>s.1) (λs t=>cH e op ad ac su ev li (t.foldl fz s.2)) (λs t=>0<=s.1) (by omega) ?_ ?_ (s:=(0,o)) rfl (by simp)
   ·rintro ⟨i,o⟩ hi h6;simp only at hi h6;obtain ⟨r,hr⟩:=hF o;refine ⟨r,?_,hr⟩;unfold fa;simp only;rw [zab (by rw [zaj];show ¬ i<(((aC su e.sub).getD u6).numbers.length:Int);omega),hr];rfl
   ·rintro ⟨i,o⟩ a t hi h6 h7 h8 h9;simp only at hi h6 h7 h8 h9;refine .inr ⟨(i+1,fz o a),?_,by simp only;omega,rfl,rfl⟩;unfold fa;simp only;rw [zaa (by simpa using h7),af ⟨h6,h7⟩,af ⟨by omega,by omega⟩,h8]
  obtain ⟨o',ho⟩:=key ow;rw [ho];unfold cH;have hl:cV ((aC li ((aC su e.sub).getD u6).aq).getD 0-1):=by have:=h4 ((aC su e.sub).getD u6).aq;exact ⟨by omega,by omega⟩
  rw [af hl];refine ⟨_,rfl,⟨Yj,TB,λk s hs=>?_,λk=>?_,Cc _ h5⟩,rfl,rfl,rfl⟩
  ·simp only at hs;rw [tq _ _ h5] at hs;split at hs
   ·cases hs
   ·exact Yk k s hs
  ·simp only;rw [dW];split
   ·have:=h4 ((aC su e.sub).getD u6).aq;simp only [zcq];unfold u6 at this;omega
   ·exact Yl k
 rw [zab (by simpa using k4)];simp only [k4,zbs];have hj:∀ b:Bool,(b=true->e.kind=14∨e.kind=15)->(b=false->¬(e.kind=14∨e.kind=15))->∃ w',dr e op ad ac su ev ow li b=some w'/\WB (n+1) w'/\w'.2.1=ad/\w'.2.2.2.1=(if e.kind=1∨e.kind=2∨e.kind=14∨e.kind=15 then su else match aC su e.sub with|some s=>c8 su e.sub (OO s e)|none=>su)/\w'.2.2.2.2.1=ev:=λb Hn Ho=>by
  unfold dr;cases b with
  | true=>rw [zaa rfl,zaa (.inr (.inr (Hn rfl)))];exact ⟨_,rfl,up,rfl,rfl,rfl⟩
  | false =>
   have hr:¬(e.kind=1∨e.kind=2∨e.kind=14∨e.kind=15):=by have:=Ho rfl;omega
   simp only [hr,zbs,zay];cases hs:aC su e.sub with
   | none=>simp only [Option.isSome_none,zay,zbs];exact ⟨_,rfl,up,rfl,rfl,rfl⟩
   | some s =>
    simp only [Option.isSome_some,zbt,zcq];have hb:=h3 _ _ hs;obtain ⟨o',ho⟩:=Qm s e op ad ac su ev ow li (by omega) (by omega);rw [ho,zac];have hc:=OP s e;refine ⟨_,rfl,⟨Yj,TB,λk s' tv=>?_,Yl,xi _ _ h5⟩,rfl,rfl,rfl⟩;simp only at tv;rw [dW] at tv;split at tv
    ·cases tv;omega
    ·exact Yk k s' tv
 split
 ·rename_i OQ;refine hj _ (λ_=>.inl (by simpa using OQ)) (λk=>?_);rw [OQ] at k;cases k
 ·rename_i OQ;have k14':¬e.kind=14:=by simpa using OQ
  refine hj _ (λk=>.inr (by simpa using k)) (λk=>?_);have:¬e.kind=15:=by simpa using k
  omega
def w0:W7:=([],[],[],[],[],[],[])
theorem wb0:WB 0 w0:=⟨by simp [w0],by simp [w0],λk s h=>by simp [w0,aC] at h,λk=>by simp [w0,aC],by simp [w0]⟩
def LV (t:Int):List Event->W7->Option W7
 | [],w=>some w
 | e::l,w=>if e.at_<=t then (apO e w).bind (LV t l) else LV t l w
theorem Ym (bV:List Event) (t:Int) (n:Nat) (w:W7) (h:WB n w) (hl:n+bV.length<=10000) :
  iC bV t w.1 w.2.1 w.2.2.1 w.2.2.2.1 w.2.2.2.2.1 w.2.2.2.2.2.1 w.2.2.2.2.2.2=LV t bV w:=by
 unfold iC;refine bj bV (λs:Int×W7=>s.1) (λs r=>LV t r s.2) (λs r=>0<=s.1/\∃ n,WB n s.2/\n+r.length<=10000) (by omega) ?_ ?_ (s:=(0,w)) rfl ⟨by simp,n,h,hl⟩
 ·rintro ⟨i,w⟩ ⟨h1,_⟩ h2;simp only at h1 h2;refine ⟨w,?_,rfl⟩;unfold kc;rw [zab (by simp only [zaj];omega)]
 ·rintro ⟨i,w⟩ e r ⟨h1,n,hb,h2⟩ h3 h4 h5 h6;simp only at h1 h2 h3 h4 h5 h6 hb;rw [zai] at h2;unfold kc;simp only;rw [zaa (by simpa using h4),af ⟨h3,h4⟩,h5];by_cases ha:e.at_<=t
  ·obtain ⟨w',hw,jZ,_⟩:=JM n e w hb (by omega);have hr:jv e w.1 w.2.1 w.2.2.1 w.2.2.2.1 w.2.2.2.2.1 w.2.2.2.2.2.1 w.2.2.2.2.2.2=some w':=by
    unfold jv;have:eZ e w.1 w.2.1 w.2.2.1 w.2.2.2.1 w.2.2.2.2.1 w.2.2.2.2.2.1 w.2.2.2.2.2.2=some w':=hw;rw [this];rfl
   rw [zaa (by simpa using ha),hr,zac,af ⟨by omega,by omega⟩];refine .inr ⟨(i+1,w'),rfl,⟨by simp only;omega,n+1,jZ,by omega⟩,rfl,?_⟩;simp only;rw [LV,zaa ha,hw];rfl
  ·rw [zab (by simpa using ha),af ⟨by omega,by omega⟩];refine .inr ⟨(i+1,w),rfl,⟨by simp only;omega,n,hb,by omega⟩,rfl,?_⟩;simp only;rw [LV,zab ha]
theorem JN (t:Int):∀ (bV:List Event) (n:Nat) (w:W7),WB n w->n+bV.length<=10000->∃ w',LV t bV w=some w'/\WB (n+bV.length) w'
 | [],n,w,h,_=>⟨w,rfl,h⟩
 | e::l,n,w,h,hl=>by
  rw [zai] at hl;unfold LV;split
  ·obtain ⟨w',hw,jZ,_⟩:=JM n e w h (by omega);obtain ⟨w2,h1,h2⟩:=JN t l (n+1) w' jZ (by omega);refine ⟨w2,by rw [hw];exact h1,?_⟩;rw [zai,show n+(l.length+1)=n+1+l.length from by omega];exact h2
  ·obtain ⟨w2,h1,h2⟩:=JN t l (n+1) w h.up (by omega);refine ⟨w2,h1,?_⟩;rw [zai,show n+(l.length+1)=n+1+l.length from by omega];exact h2
def jI (w:W7):List Sub:=w.2.1.filterMap (aC w.2.2.2.1)
def Yn (su:List (Int×Sub)):List Int->List (Int×List Int)->List (Int×List Int)
 | [],o=>o
 | k::t,o=>match aC su k with
  | none=>Yn su t o
  | some s=>Yn su t (c8 o s.aq ((aC o s.aq).getD []++[k]))
theorem OR (op:List Int) (ac:List (Int×al)) (L:List Sub) (o:List (Int×List Int)) (hl:op.length<=10000):∃ a,cQ op ac L o=some ⟨a,L⟩:=by
 unfold cQ
 let f:Int->al:=λk=>⟨((aC ac k).getD (⟨0,0,0,false,false,([]:List Int)⟩:al)).id,((aC ac k).getD (⟨0,0,0,false,false,([]:List Int)⟩:al)).since,((aC ac k).getD (⟨0,0,0,false,false,([]:List Int)⟩:al)).anchor,((aC ac k).getD (⟨0,0,0,false,false,([]:List Int)⟩:al)).fX,((aC ac k).getD (⟨0,0,0,false,false,([]:List Int)⟩:al)).closed,(aC o k).getD ([]:List Int)⟩
 refine ⟨op.map f,?_⟩;have:=bj (step:=λs:Int×List al=>dQ op ac L o s.1 s.2) op (λs=>s.1) (λs r=>some (⟨s.2++r.map f,L⟩:cj)) (λs r=>0<=s.1/\(s.2.length:Int)<=s.1/\s.1<=(op.length:Int)) (by omega) ?_ ?_ (s:=(0,[])) rfl (by simp)
 ·rw [this];simp
 ·rintro ⟨i,l⟩ ⟨h1,h2,h3⟩ h4;simp only at h1 h2 h3 h4;refine ⟨⟨l,L⟩,?_,by simp⟩;unfold dQ;rw [zab (by simp only [zaj];omega)]
 ·rintro ⟨i,l⟩ k r ⟨h1,h2,h3⟩ h4 h5 h6 h7;simp only at h1 h2 h3 h4 h5 h6 h7;refine .inr ⟨(i+1,l++[f k]),?_,⟨by simp only;omega,by simp only [zak,zam];omega,by simp only;omega⟩,rfl,by simp⟩;unfold dQ;rw [zaa (by simpa using h5),af ⟨h4,h5⟩,af (by simp only [zam];omega),af ⟨by omega,by omega⟩,h6]
theorem LW (n:Nat) (w:W7) (h:WB n w) (hn:n<=10000):∃ a,eP w.1 w.2.1 w.2.2.1 w.2.2.2.1 w.2.2.2.2.1 w.2.2.2.2.2.1 w.2.2.2.2.2.2=some ⟨a,jI w⟩:=by
 obtain ⟨op,ad,ac,su,ev,ow,li⟩:=w;have h1:=h.opened;have h2:=h.added;simp only at h1 h2;unfold eP jI;simp only;obtain ⟨a,ha⟩:=OR op ac (ad.filterMap (aC su)) (Yn su ad []) (by omega);refine ⟨a,?_⟩;have:=bj (step:=λs:Int×List Sub×List (Int×List Int)=>cR op ad ac su s.1 s.2.1 s.2.2) ad (λs=>s.1) (λs r=>cQ op ac (s.2.1++r.filterMap (aC su)) (Yn su r s.2.2))
  (λs r=>0<=s.1/\(s.2.1.length:Int)<=s.1/\s.1<=(ad.length:Int)/\∀ k,(((aC s.2.2 k).getD []).length:Int)<=s.1) (by omega) ?_ ?_ (s:=(0,[],[])) rfl ⟨by simp,by simp,by simp,λk=>by simp [aC]⟩
 ·rw [this];simpa using ha
 ·rintro ⟨i,l,o⟩ ⟨h3,h4,h5,h6⟩ h7;simp only at h3 h4 h5 h6 h7;obtain ⟨a,ha⟩:=OR op ac l o (by omega);refine ⟨⟨a,l⟩,?_,by simpa [Yn] using ha⟩;unfold cR;rw [zab (by simp only [zaj];omega),ha];rfl
 ·rintro ⟨i,l,o⟩ k r ⟨h3,h4,h5,h6⟩ h7 h8 h9 Ni;simp only at h3 h4 h5 h6 h7 h8 h9 Ni;unfold cR;simp only;rw [zaa (by simpa using h8),af ⟨h7,h8⟩,h9];cases hs:aC su k with
  | none =>
   refine .inr ⟨(i+1,l,o),?_,⟨by simp only;omega,by simp only;omega,by simp only;omega,λk=>by have:=h6 k;simp only;omega⟩,rfl,?_⟩
   ·rw [zaa (by simp),af ⟨by omega,by omega⟩]
   ·simp only [zed,hs,Yn]
  | some s =>
   have h6':=h6 s.aq;refine .inr ⟨(i+1,l++[s],c8 o s.aq ((aC o s.aq).getD []++[k])),?_,⟨by simp only;omega,by simp only [zak,zam];omega,by simp only;omega,λk'=>?_⟩,rfl,?_⟩
   ·rw [zab (by simp)];simp only [zcq];rw [af (by simp only [zam];omega),af (by simp only [zam];omega),af ⟨by omega,by omega⟩]
   ·simp only;rw [dW];split
    ·simp only [zcq,zak,zam];omega
    ·have:=h6 k';omega
   ·simp only [zed,hs,Yn,zat,zbv]
theorem UP (bV:List Event) (t:Int) (hl:bV.length<=5000):∃ w a,LV t bV w0=some w/\WB bV.length w/\eh bV t=some ⟨a,jI w⟩:=by
 obtain ⟨w,h1,h2⟩:=JN t bV 0 w0 wb0 (by omega);rw [zca] at h2;obtain ⟨a,ha⟩:=LW _ w h2 (by omega);refine ⟨w,a,h1,h2,?_⟩;unfold eh og pw;have:=Ym bV t 0 w0 wb0 (by omega);simp only [zac];rw [show iC bV t ([]:List Int) ([]:List Int) ([]:List (Int×al)) ([]:List (Int×Sub)) ([]:List (Int×Bool)) ([]:List ((List UInt8)×Int)) ([]:List (Int×Int))=LV t bV w0 from this,h1,zac,ha];rfl
def Yo:List Sub->List ((List UInt8)×Int)->List ((List UInt8)×Int)
 | [],o=>o
 | s::l,o=>Yo l (s.numbers.foldl (λo n=>c8 o n s.id) o)
theorem S6 (bV:List Event) (t:Int) (c:cj) (h:eh bV t=some c) (hl:c.bh.length<=10000) (hn:∀ s,s∈c.bh->s.numbers.length<=10000):jw bV t=some (Yo c.bh []):=by
 unfold jw;rw [h,zac];refine bj (step:=λs:Int×List ((List UInt8)×Int)=>gN c s.1 s.2) c.bh (λs=>s.1) (λs r=>some (Yo r s.2)) (λs r=>0<=s.1/\∀ x,x∈r->x.numbers.length<=10000) (by omega) ?_ ?_ (s:=(0,[])) rfl ⟨by simp,hn⟩
 ·rintro ⟨i,o⟩ ⟨h1,_⟩ h2;simp only at h1 h2;refine ⟨o,?_,rfl⟩;unfold gN;rw [zab (by simp only [zaj];omega)]
 ·rintro ⟨i,o⟩ x r ⟨h1,h2⟩ h3 h4 h5 h6;simp only at h1 h2 h3 h4 h5 h6;refine .inr ⟨(i+1,x.numbers.foldl (λo n=>c8 o n x.id) o),?_,⟨by simp only;omega,λy hy=>h2 y (zag _ hy)⟩,rfl,rfl⟩
  unfold gN;rw [zaa (by simpa using h4),af ⟨h3,h4⟩];have hx:=h2 x (zah ..);refine bj (step:=λs:Int×List ((List UInt8)×Int)=>gM c i s.1 s.2) x.numbers (λs=>s.1) (λs r=>some (.inl (i+1,r.foldl (λo n=>c8 o n x.id) s.2))) (λs r=>0<=s.1) (by omega) ?_ ?_ (s:=(0,o)) rfl (by simp)
  ·rintro ⟨j,o⟩ h7 h8;simp only at h7 h8;refine ⟨_,?_,rfl⟩;unfold gM;rw [h5,zab (by simp only [zaj];omega),af ⟨by omega,by omega⟩];rfl
  ·rintro ⟨j,o⟩ n q h7 h8 h9 Ni h11;simp only at h7 h8 h9 Ni h11;refine .inr ⟨(j+1,c8 o n x.id),?_,by simp only;omega,rfl,rfl⟩;unfold gM;rw [h5,zaa (by simpa using h9),af ⟨h8,h9⟩,af ⟨by omega,by omega⟩,Ni]
def LX (id:Int):List Sub->Sub×Bool
 | []=>(u6,false)
 | s::l=>if s.id=id then (s,true) else LX id l
theorem p_Sub (bV:List Event) (id t:Int) (c:cj) (h:eh bV t=some c) (hl:c.bh.length<=10000):nu bV id t=some (LX id c.bh):=by
 unfold nu;rw [h,zac];refine bj (step:=λs:Int=>kf id c s) c.bh (λs=>s) (λs r=>some (LX id r)) (λs r=>0<=s) (by omega) ?_ ?_ (s:=0) rfl (by simp)
 ·rintro i h1 h2;refine ⟨_,?_,rfl⟩;unfold kf;rw [zab (by simp only [zaj];omega)];rfl
 ·rintro i x r h1 h2 h3 h4 h5;unfold kf;rw [zaa (by simpa using h3),af ⟨h2,h3⟩,h4];by_cases hx:x.id=id
  ·rw [zaa (by simpa using hx)];exact .inl ⟨_,rfl,by rw [LX,zaa hx]⟩
  ·rw [zab (by simpa using hx),af ⟨by omega,by omega⟩];exact .inr ⟨_,rfl,by omega,rfl,by rw [LX,zab hx]⟩
def zO (r:aa):List UInt8:=if r.bT=true then r.b else r.a
def JO (L:List Sub) (n:List UInt8):Sub×Bool:=match aC (Yo L []) n with
 | none=>(u6,false)
 | some id=>LX id L
theorem UQ (bV:List Event) (r:aa) (c:cj) (h:eh bV r.start=some c) (hl:c.bh.length<=10000) (hn:∀ s,s∈c.bh->s.numbers.length<=10000) :
  iQ (⟨(⟨r⟩:dv),bV⟩:kv)=some (JO c.bh (zO r)):=by
 unfold iQ;have Yp:gg (⟨r⟩:dv)=some (zO r):=by
  unfold gg zO;split <;> rfl
 simp only;rw [Yp,zac];unfold mS JO;rw [S6 bV _ c h hl hn,zac,zac];cases ha:aC (Yo c.bh []) (zO r) with
 | none=>simp
 | some id =>
  simp only [Option.isSome_some,zcq,zbu,zay,zbs];rw [p_Sub bV id _ c h hl,zac]
def Gn:aE:=⟨0,0,0,0,([]:List UInt8),([]:List UInt8),0,0,0,false,0,0⟩
def Dc (L:List Sub) (r:aa) (id:Int):aE×Int :=
 if cW r≠0 then (Gn,cW r)
 else if r.part≠0 then (Gn,8)
 else if (JO L (zO r)).2=false then (Gn,11)
 else if (JO L (zO r)).1.bn=true/\r.bT=false then (Gn,16)
 else (⟨id,r.kind,(JO L (zO r)).1.aq,(JO L (zO r)).1.id,r.a,r.b,r.start,r.cz,r.cF,r.bT,r.source,r.az⟩,0)
theorem UR (bV:List Event) (r:aa) (id:Int) (c:cj) (h:eh bV r.start=some c) (hl:c.bh.length<=10000) (hn:∀ s,s∈c.bh->s.numbers.length<=10000) (hs:Sm r) :
  gj bV r id=some (Dc c.bh r id):=by
 unfold gj Dc;rw [zl r hs,zac,UQ bV r c h hl hn];by_cases h1:cW r=0
 ·rw [zab (show ¬((cW r != 0)=true) by simp [h1]),zab (show ¬(cW r≠0) from λk=>k h1)];by_cases h2:r.part=0
  ·rw [zab (show ¬((r.part != 0)=true) by simp [h2]),zab (show ¬(r.part≠0) from λk=>k h2),zac];generalize JO c.bh (zO r)=y;obtain ⟨s,ok⟩:=y;cases ok with
   | false=>simp [Gn]
   | true =>
    simp only [zbu,zay,zbs];cases hss:s.bn <;> cases hi:r.bT <;> simp [Gn,jL,hi]
  ·rw [zaa (show (r.part != 0)=true by simpa using h2),zaa (show r.part≠0 from h2)];rfl
 ·rw [zaa (show (cW r != 0)=true by simpa using h1),zaa (show cW r≠0 from h1)];rfl
abbrev Bk:=ah
def uy {α:Type} (p:α->Bool):List α->Int->Int
 | [],_=>-1
 | a::l,i=>if p a=true then i else uy p l (i+1)
theorem tC {α:Type} [Inhabited α] (p:α->Bool):∀ (l:List α) (i:Int),0<=i->(uy p l i=-1/\∀ a,a∈l->p a=false)∨(i<=uy p l i/\uy p l i<i+l.length/\p (nth l (uy p l i-i).toNat)=true)
 | [],i,_=>.inl ⟨rfl,λa h=>by simp at h⟩
 | a::l,i,hi=>by
  unfold uy;by_cases h:p a=true
  ·rw [zaa h];refine .inr ⟨by omega,by rw [zai];omega,?_⟩;rw [show (i-i).toNat=0 from by omega,fp];exact h
  ·rw [zab h];rcases tC p l (i+1) (by omega) with ⟨h1,h2⟩|⟨h1,h2,h3⟩
   ·exact .inl ⟨h1,λb hb=>by
     rcases zan.1 hb with rfl|hb
     ·simpa using h
     ·exact h2 b hb⟩
   ·refine .inr ⟨by omega,by rw [zai];omega,?_⟩;rw [show (uy p l (i+1) - i).toNat=(uy p l (i+1) - (i+1)).toNat+1 from by omega,eU];exact h3
theorem Dd (b:Bk) (n:Int) (hl:b.aM.length<=100000):kF b n=some (uy (λa=>a.id==n) b.aM 0):=by
 unfold kF;refine bj (step:=λs:Int=>lM b n s) b.aM (λs=>s) (λs r=>some (uy (λa=>a.id==n) r s)) (λs r=>0<=s) (by omega) ?_ ?_ (s:=0) rfl (by simp)
 ·rintro i h1 h2;refine ⟨_,?_,rfl⟩;unfold lM;rw [zab (by simp only [zaj];omega)];rfl
 ·rintro i x r h1 h2 h3 h4 h5;unfold lM;rw [zaa (by simpa using h3),af ⟨h2,h3⟩,h4];by_cases hx:(x.id==n)=true
  ·rw [zaa hx];exact .inl ⟨_,rfl,by rw [uy,zaa hx]⟩
  ·rw [zab hx,af ⟨by omega,by omega⟩];exact .inr ⟨_,rfl,by omega,rfl,by rw [uy,zab hx]⟩
def lS (b:Bk) (n:Int):Int:=uy (λa:Sub=>a.id==n) b.bh 0
theorem Gp (b:Bk) (n:Int) (hl:b.bh.length<=100000):oo b n=some (lS b n):=by
 unfold oo;refine bj (step:=λs:Int=>qx b n s) b.bh (λs=>s) (λs r=>some (uy (λa:Sub=>a.id==n) r s)) (λs r=>0<=s) (by omega) ?_ ?_ (s:=0) rfl (by simp)
 ·rintro i h1 h2;refine ⟨_,?_,rfl⟩;unfold qx;rw [zab (by simp only [zaj];omega)];rfl
 ·rintro i x r h1 h2 h3 h4 h5;unfold qx;rw [zaa (by simpa using h3),af ⟨h2,h3⟩,h4];by_cases hx:(x.id==n)=true
  ·rw [zaa hx];exact .inl ⟨_,rfl,by rw [uy,zaa hx]⟩
  ·rw [zab hx,af ⟨by omega,by omega⟩];exact .inr ⟨_,rfl,by omega,rfl,by rw [uy,zab hx]⟩
theorem EK (b:Bk) (n:Int) (hl:b.ended.length<=100000):lX b n=some (decide (n∈b.ended)):=by
 unfold lX;refine bj (step:=λs:Int=>nM b n s) b.ended (λs=>s) (λs r=>some (decide (n∈r))) (λs r=>0<=s) (by omega) ?_ ?_ (s:=0) rfl (by simp)
 ·rintro i h1 h2;refine ⟨_,?_,rfl⟩;unfold nM;rw [zab (by simp only [zaj];omega)];simp
 ·rintro i x r h1 h2 h3 h4 h5;unfold nM;rw [zaa (by simpa using h3),af ⟨h2,h3⟩,h4];by_cases hx:x=n
  ·rw [zaa (by simpa using hx)];exact .inl ⟨_,rfl,by simp [hx]⟩
  ·rw [zab (by simpa using hx),af ⟨by omega,by omega⟩];exact .inr ⟨_,rfl,by omega,rfl,by simp [zcn hx]⟩
theorem JP (l:List (List UInt8)) (n:List UInt8) (hl:l.length<=100000):oq l n=some (decide (n∈l)):=by
 unfold oq;refine bj (step:=λs:Int=>qy l n s) l (λs=>s) (λs r=>some (decide (n∈r))) (λs r=>0<=s) (by omega) ?_ ?_ (s:=0) rfl (by simp)
 ·rintro i h1 h2;refine ⟨_,?_,rfl⟩;unfold qy;rw [zab (by simp only [zaj];omega)];simp
 ·rintro i x r h1 h2 h3 h4 h5;unfold qy;rw [zaa (by simpa using h3),af ⟨h2,h3⟩,h4];by_cases hx:x=n
  ·rw [zaa (by simpa using hx)];exact .inl ⟨_,rfl,by simp [hx]⟩
  ·rw [zab (by simpa using hx),af ⟨by omega,by omega⟩];exact .inr ⟨_,rfl,by omega,rfl,by simp [zcn hx]⟩
structure BB (n:Nat) (b:Bk):Prop where
 Nz:b.aM.length<=n
 bh:b.bh.length<=n
 ended:b.ended.length<=n
 nums:∀ s,s∈b.bh->s.numbers.length<=n/\s.cA.length<=n
theorem BB.up {n:Nat} {b:Bk} (h:BB n b):BB (n+1) b:=⟨by have:=h.Nz;omega,by have:=h.bh;omega,by have:=h.ended;omega,λs hs=>by have:=h.nums s hs;omega⟩
theorem US (b:Bk) (x:List UInt8) (n:Nat) (h:BB n b) (hn:n<=10000):sj b x=some (b.bh.any λs=>decide (x∈s.numbers)):=by
 unfold sj;have hl:=h.bh;refine bj (step:=λs:Int=>nN b x s) b.bh (λs=>s) (λs r=>some (r.any λs=>decide (x∈s.numbers))) (λs r=>0<=s/\∀ y,y∈r->y.numbers.length<=n) (by omega) ?_ ?_ (s:=0) rfl ⟨by simp,λy hy=>(h.nums y hy).1⟩
 ·rintro i ⟨h1,_⟩ h2;refine ⟨_,?_,rfl⟩;unfold nN;rw [zab (by simp only [zaj];omega)];simp
 ·rintro i y r ⟨h1,h2⟩ h3 h4 h5 h6;have hy:=h2 y (zah ..);unfold nN;rw [zaa (by simpa using h4),af ⟨h3,h4⟩,h5,JP _ _ (by omega),zac];by_cases hx:x∈y.numbers
  ·rw [zaa (by simpa using hx)];exact .inl ⟨_,rfl,by simp [hx]⟩
  ·rw [zab (by simpa using hx),af ⟨by omega,by omega⟩];exact .inr ⟨_,rfl,⟨by omega,λz hz=>h2 z (zag _ hz)⟩,rfl,by simp [hx]⟩
theorem Yq (b:Bk) (k:Int) (n:Nat) (h:BB n b) (hn:n<=10000):∃ y,tZ b k=some y:=by
 unfold tZ;have hl:=h.bh;have he:=h.ended;refine ⟨_,bj (step:=λs:Int=>pb b k s) b.bh (λs=>s) (λs r=>some (r.any λs=>(s.aq==k) && !decide (s.id∈b.ended))) (λs r=>0<=s) (by omega) ?_ ?_ (s:=0) rfl (by simp)⟩
 ·rintro i h1 h2;refine ⟨_,?_,rfl⟩;unfold pb;rw [zab (by simp only [zaj];omega)];simp
 ·rintro i y r h1 h3 h4 h5 h6;unfold pb;rw [zaa (by simpa using h4),af ⟨h3,h4⟩,af (λ_=>⟨h3,h4⟩),h5,EK _ _ (by omega)];by_cases ha:(y.aq==k)=true
  ·simp only [ha,bH,zbt,zac,zcg];by_cases hx:y.id∈b.ended
   ·rw [zab (by simpa using hx),af ⟨by omega,by omega⟩];exact .inr ⟨_,rfl,by omega,rfl,by simp [ha,hx]⟩
   ·rw [zaa (by simpa using hx)];exact .inl ⟨_,rfl,by simp [ha,hx]⟩
  ·have QP:(y.aq==k)=false:=by simpa using ha
   simp only [QP,bH,zay,zbs,zac,zcv];rw [af ⟨by omega,by omega⟩];exact .inr ⟨_,rfl,by omega,rfl,by simp [QP]⟩
def oF (k:Int):List Bool :=
 if k=1 then [true,false,false,true,true] else if k=2 then [true,false,false,false,false] else if k=3 then [true,true,false,true,false]
 else if k=5∨k=6 then [false,true,true,false,false] else if k=7∨k=8∨k=9 then [false,true,false,true,false] else if k=14∨k=15 then [true,false,false,false,true] else [false,true,false,false,false]
theorem S7 (k:Int):rl k=some (oF k):=by
 unfold rl oF;have h3:∀ b:Bool,(b=true->k=14∨k=15)->(b=false->¬(k=14∨k=15))->kD b=some (if k=14∨k=15 then [true,false,false,false,true] else [false,true,false,false,false]):=λb h1 h2=>by
  unfold kD;cases b with
  | true=>rw [zaa rfl,zaa (h1 rfl)]
  | false=>rw [zab (by simp),zab (h2 rfl)]
 have h2:∀ b:Bool,(b=true->k=7∨k=8∨k=9)->(b=false->¬(k=7∨k=8∨k=9))->jb k b=some (if k=7∨k=8∨k=9 then [false,true,false,true,false] else if k=14∨k=15 then [true,false,false,false,true] else [false,true,false,false,false]):=λb h1 h2=>by
  unfold jb;cases b with
  | true=>rw [zaa rfl,zaa (h1 rfl)]
  | false =>
   rw [zab (by simp),zab (h2 rfl)];by_cases OQ:k=14
   ·rw [zaa (by simpa using OQ)];exact h3 _ (λ_=>.inl OQ) (λh=>by simp [OQ] at h)
   ·rw [zab (by simpa using OQ)];exact h3 _ (λh=>.inr (by simpa using h)) (λh=>by rw [zes] at h;omega)
 have h1:∀ b:Bool,(b=true->k=5∨k=6)->(b=false->¬(k=5∨k=6))->kE k b=some (if k=5∨k=6 then [false,true,true,false,false] else if k=7∨k=8∨k=9 then [false,true,false,true,false] else if k=14∨k=15 then [true,false,false,false,true] else [false,true,false,false,false]):=λb h1 Hl=>by
  unfold kE;cases b with
  | true=>rw [zaa rfl,zaa (h1 rfl)]
  | false =>
   rw [zab (by simp),zab (Hl rfl)];by_cases k7:k=7
   ·rw [zaa (by simpa using k7)];exact h2 _ (λ_=>.inl k7) (λh=>by simp [k7] at h)
   rw [zab (by simpa using k7)];by_cases k8:k=8
   ·rw [zaa (by simpa using k8)];exact h2 _ (λ_=>.inr (.inl k8)) (λh=>by simp [k8] at h)
   rw [zab (by simpa using k8)];exact h2 _ (λh=>.inr (.inr (by simpa using h))) (λh=>by rw [zes] at h;omega)
 by_cases k1:k=1
 ·rw [zaa (by simpa using k1),zaa k1]
 rw [zab (by simpa using k1),zab k1];by_cases k2:k=2
 ·rw [zaa (by simpa using k2),zaa k2]
 rw [zab (by simpa using k2),zab k2];by_cases k3:k=3
 ·rw [zaa (by simpa using k3),zaa k3]
 rw [zab (by simpa using k3),zab k3];by_cases k5:k=5
 ·rw [zaa (by simpa using k5)];exact h1 _ (λ_=>.inl k5) (λh=>by simp [k5] at h)
 rw [zab (by simpa using k5)];exact h1 _ (λh=>.inr (by simpa using h)) (λh=>by rw [zes] at h;omega)
theorem Yr (s:List UInt8) (hl:s.length<=100000):∃ y,tX s=some y:=by
 unfold tX;by_cases h:(decide ((s.length:Int)<1) || decide ((s.length:Int) > 24))=true
 ·rw [af (by simp [h]),af (by simp [h]),zaa (by simp [h])];exact ⟨_,rfl⟩
 ·have h':¬((s.length:Int)<1):=by simp at h;omega
  rw [af (λ_=>⟨by omega,by omega⟩),af (λ_=>⟨by omega,by omega⟩)];split
  ·exact ⟨_,rfl⟩
  ·refine ⟨_,bj (step:=λi:Int=>o9 s i) s (λi=>i) (λi r=>some (r.all λc=>!((((decide (c<97)) || (decide (c > 122))) && ((decide (c<48)) || (decide (c > 57)))) && (c != 45)))) (λi r=>0<=i) (by omega) ?_ ?_ (s:=0) rfl (by simp)⟩
   ·rintro i h1 h2;refine ⟨_,?_,rfl⟩;unfold o9;rw [zab (by simp only [zaj];omega)];simp
   ·rintro i c r h1 h2 h3 h4 h5;unfold o9;rw [zaa (by simpa using h3),af ⟨h2,h3⟩,af (λ_=>⟨h2,h3⟩),af (λ_=>⟨h2,h3⟩),af (λ_=>⟨h2,h3⟩),af (λ_=>⟨h2,h3⟩),h4];split
    ·rename_i hc;exact .inl ⟨_,rfl,by simp only [zei,hc,zbu,zcv]⟩
    ·rename_i hc;rw [af ⟨by omega,by omega⟩];exact .inr ⟨_,rfl,by omega,rfl,by rw [zei,Bool.not_eq_true _ |>.mp hc];rfl⟩
structure NA (e:Event) (last:Int):Prop where
 kind:1<=e.kind/\e.kind<=15
 at_:last<=e.at_
 sub:¬(e.kind=1∨e.kind=2∨e.kind=14∨e.kind=15)->1<=e.sub/\e.sub<=9999
 num:e.kind=5->e.number≠[]
 acct:e.kind=3->1<=e.aq/\e.aq<=9999
theorem UT (e:Event):∃ y,si e=some y:=by
 unfold si;split
 ·exact ⟨_,rfl⟩
 ·split <;> exact ⟨_,rfl⟩
theorem xj {α:Type} [Inhabited α] (b:Bool) (x:α):∃ y,bH b (some x)=some y/\(b=true->y=x):=⟨_,dR,λh=>by rw [zaa h]⟩
theorem Ys (e:Event) (last:Int) (h1:e.name.length<=1000) (h2:e.number.length<=1000):∃ y,tY e last=some y/\(y=0->NA e last):=by
 obtain ⟨nb,hnb⟩:=Yr e.name (by omega);obtain ⟨vb,YP⟩:=UT e;unfold tY;rw [S7,hnb,F1 _ (by omega),YP];unfold yr;simp only [zac];by_cases c1:(decide (e.kind<1) || decide (e.kind > 15))=true
 ·rw [zaa c1];exact ⟨_,rfl,by omega⟩
 rw [zab c1];by_cases c2:(decide (e.at_<0) || decide (e.at_>=12622780800))=true
 ·rw [zaa c2];exact ⟨_,rfl,by omega⟩
 rw [zab c2];by_cases c3:decide (e.at_<last)=true
 ·rw [zaa c3];exact ⟨_,rfl,by omega⟩
 rw [zab c3];have k1:1<=e.kind/\e.kind<=15:=by simp at c1;omega
 have k2:last<=e.at_:=by simpa using c3
 split
 ·exact ⟨_,rfl,by omega⟩
 obtain ⟨y2,fU,q2⟩:=xj (nth (oF e.kind) 0) (decide (e.aq>=1) && decide (e.aq<=9999));rw [fU,zac];obtain ⟨y3,jR,q3⟩:=xj ((!((nth (oF e.kind) 0) && (!y2))) && (nth (oF e.kind) 1)) (decide (e.sub>=1) && decide (e.sub<=9999));rw [jR,zac];by_cases c5:((nth (oF e.kind) 0 && !y2) || (nth (oF e.kind) 1 && !y3))=true
 ·rw [zaa c5];exact ⟨_,rfl,by omega⟩
 rw [zab c5];obtain ⟨y4,oB,q4⟩:=xj (nth (oF e.kind) 3) nb;rw [oB,zac];split
 ·exact ⟨_,rfl,by omega⟩
 obtain ⟨y5,sH,q5⟩:=xj (nth (oF e.kind) 2) (pI e.number);rw [sH,zac];by_cases c7:(nth (oF e.kind) 2 && !y5)=true
 ·rw [zaa c7];exact ⟨_,rfl,by omega⟩
 rw [zab c7];obtain ⟨y6,xW,q6⟩:=xj (nth (oF e.kind) 4) vb;rw [xW,zac];have fin:NA e last:=by
  refine ⟨k1,k2,λhk=>?_,λhk=>?_,λhk=>?_⟩
  ·have hu:nth (oF e.kind) 1=true:=by
    unfold oF;rw [zab (by omega),zab (by omega)];split
    ·rfl
    split
    ·rfl
    split
    ·rfl
    rw [zab (by omega)];rfl
   have c5a:(nth (oF e.kind) 0 && !y2)=false:=by
    cases hh:(nth (oF e.kind) 0 && !y2) with
    | false=>rfl
    | true=>rw [hh] at c5;simp at c5
   rw [c5a,hu] at q3 c5;have y3t:y3=true:=by cases y3 <;> simp_all
   have:=q3 rfl;rw [y3t] at this;simp at this;omega
  ·have hu:nth (oF e.kind) 2=true:=by
    unfold oF;rw [zab (by omega),zab (by omega),zab (by omega),zaa (.inl hk)];rfl
   rw [hu] at c7 q5;have y5t:y5=true:=by cases y5 <;> simp_all
   have hv:=q5 rfl;rw [y5t] at hv;intro hn;rw [hn] at hv;simp [pI] at hv
  ·have hu:nth (oF e.kind) 0=true:=by
    unfold oF;simp [hk,nth]
   rw [hu] at q2 c5;have y2t:y2=true:=by
    cases hh:y2 with
    | true=>rfl
    | false=>rw [hh] at c5;exact absurd rfl c5
   have:=q2 rfl;rw [y2t] at this;simp at this;omega
 split
 ·exact ⟨_,rfl,by omega⟩
 ·exact ⟨_,rfl,λ_=>fin⟩
def Gq (b:Bk) (n:Int):Int:=uy (λa:al=>a.id==n) b.aM 0
theorem LY (b:Bk) (e:Event) (n:Nat) (h:BB n b) (hn:n<=10000):∃ y,mx b e=some y/\(y=0->(e.kind=3->lS b e.sub=-1)/\(e.kind≠1->0<=Gq b e.aq/\Gq b e.aq<(b.aM.length:Int))):=by
 have ha:=h.Nz;have hs:=h.bh;obtain ⟨by_,Ev⟩:=Yq b e.aq n h hn;unfold mx;rw [Dd b _ (by omega),zac,Gp b _ (by omega),Ev];rw [show uy (λa:al=>a.id==e.aq) b.aM 0=Gq b e.aq from rfl];have sp:(Gq b e.aq=-1)∨(0<=Gq b e.aq/\Gq b e.aq<(b.aM.length:Int)):=by
  rcases tC (λa:al=>a.id==e.aq) b.aM 0 (by omega) with ⟨q,_⟩|⟨q1,q2,_⟩
  ·exact .inl q
  ·exact .inr ⟨q1,by unfold Gq;omega⟩
 have sq:lS b e.sub=-1∨0<=lS b e.sub:=by
  rcases tC (λa:Sub=>a.id==e.sub) b.bh 0 (by omega) with ⟨q,_⟩|⟨q1,q2,_⟩
  ·exact .inl q
  ·exact .inr q1
 by_cases k1:e.kind=1
 ·rw [zaa (by simpa using k1)];split
  ·exact ⟨_,rfl,by omega⟩
  ·exact ⟨_,rfl,λ_=>⟨by omega,by omega⟩⟩
 rw [zab (by simpa using k1)];by_cases k2:Gq b e.aq<0
 ·rw [zaa (by simpa using k2)];exact ⟨_,rfl,by omega⟩
 rw [zab (by simpa using k2),af (by omega)];split
 ·exact ⟨_,rfl,by omega⟩
 obtain ⟨y2,fU,q2⟩:=xj (e.kind==3) (lS b e.sub);rw [fU,zac];by_cases c2:((e.kind==3) && decide (y2>=0))=true
 ·rw [zaa c2];exact ⟨_,rfl,by omega⟩
 rw [zab c2];obtain ⟨y3,jR,q3⟩:=xj (e.kind==2) by_;rw [jR,zac,af (by intro _;omega)];split
 ·exact ⟨_,rfl,by omega⟩
 refine ⟨_,rfl,λ_=>⟨λk3=>?_,λ_=>by omega⟩⟩;have e2:=q2 (by simpa using k3);rcases sq with q|q
 ·exact q
 ·exact absurd (by simp [k3,e2,q]) c2
theorem UU (b:Bk) (e:Event) (n:Nat) (h:BB n b) (hn:n<=10000):∃ y,sk b e=some y/\(y=0->(0<=lS b e.sub/\lS b e.sub<(b.bh.length:Int))/\e.sub ∉ b.ended/\(e.kind=5->∀ s,s∈b.bh->e.number ∉ s.numbers)):=by
 have hs:=h.bh;have he:=h.ended;unfold sk;rw [Gp b _ (by omega),zac];by_cases k1:lS b e.sub<0
 ·rw [zaa (by simpa using k1)];exact ⟨_,rfl,by omega⟩
 rw [zab (by simpa using k1),EK b _ (by omega),zac];by_cases k2:e.sub∈b.ended
 ·rw [zaa (by simpa using k2)];exact ⟨_,rfl,by omega⟩
 rw [zab (by simpa using k2)];have sp:0<=lS b e.sub/\lS b e.sub<(b.bh.length:Int):=by
  rcases tC (λa:Sub=>a.id==e.sub) b.bh 0 (by omega) with ⟨q,_⟩|⟨q1,q2,_⟩
  ·unfold lS at k1;omega
  ·unfold lS;omega
 rw [af sp];have hm:=h.nums _ (jO (l:=b.bh) (k:=(lS b e.sub).toNat) (by omega));by_cases k5:e.kind=5
 ·rw [zaa (by simpa using k5),US b _ n h hn,zac];split
  ·exact ⟨_,rfl,by omega⟩
  ·rename_i c;refine ⟨_,rfl,λ_=>⟨sp,k2,λ_ s tv hx=>c ?_⟩⟩;rw [zfh];exact ⟨s,tv,by simpa using hx⟩
 rw [zab (by simpa using k5)];have ok:∀ y:Int,∃ z,some y=some z/\(z=0->(0<=lS b e.sub/\lS b e.sub<(b.bh.length:Int))/\e.sub ∉ b.ended/\(e.kind=5->∀ s,s∈b.bh->e.number ∉ s.numbers)):=λy=>⟨y,rfl,λ_=>⟨sp,k2,λk=>absurd k k5⟩⟩
 rw [JP _ _ (by omega),JP _ _ (by omega)];simp only [zac];unfold lO lN
 repeat' split
 all_goals exact ok _
structure EL (b:Bk) (e:Event) (last:Int):Prop where
 form:NA e last
 acc:e.kind=2->0<=Gq b e.aq/\Gq b e.aq<(b.aM.length:Int)
 add:e.kind=3->lS b e.sub=-1
 sub:¬(e.kind=1∨e.kind=2∨e.kind=3∨e.kind=14∨e.kind=15)->(0<=lS b e.sub/\lS b e.sub<(b.bh.length:Int))/\e.sub ∉ b.ended/\(e.kind=5->∀ s,s∈b.bh->e.number ∉ s.numbers)
theorem OS (b:Bk) (e:Event) (last:Int) (n:Nat) (h:BB n b) (hn:n<=10000) (h1:e.name.length<=1000) (h2:e.number.length<=1000):∃ y,pP b e last=some y/\(y=0->EL b e last):=by
 obtain ⟨y1,e1,q1⟩:=Ys e last h1 h2;obtain ⟨y2,e2,q2⟩:=LY b e n h hn;obtain ⟨y3,e3,q3⟩:=UU b e n h hn;unfold pP;rw [e1,zac,S7,zac,e2,e3];by_cases c1:y1=0
 ·rw [zab (by simpa using c1)];have f:=q1 c1;by_cases c2:nth (oF e.kind) 0=true
  ·rw [zaa c2];refine ⟨y2,rfl,λh0=>⟨f,λk=>(q2 h0).2 (by omega),λk=>(q2 h0).1 k,λk=>?_⟩⟩;exfalso;unfold oF at c2;rw [zab (by omega),zab (by omega),zab (by omega)] at c2;split at c2
   ·simp [nth] at c2
   split at c2
   ·simp [nth] at c2
   rw [zab (by omega)] at c2;simp [nth] at c2
  ·rw [zab c2];have k0:¬(e.kind=1∨e.kind=2∨e.kind=3∨e.kind=14∨e.kind=15):=λk=>c2 (by
    unfold oF;rcases k with k|k|k|k|k <;> simp [k,nth])
   exact ⟨y3,rfl,λh0=>⟨f,λk=>absurd (.inr (.inl k)) k0,λk=>absurd (.inr (.inr (.inl k))) k0,λ_=>q3 h0⟩⟩
 ·rw [zaa (by simpa using c1)];exact ⟨y1,rfl,λh0=>absurd h0 c1⟩
def J8 (s:Sub) (e:Event):Sub:=if e.kind=4 then { s with numbers:=[],cA:=[] } else OO s e
theorem NB (s:Sub) (e:Event) (h1:s.numbers.length<=100000) (h2:s.cA.length<=100000):pd s e=some (J8 s e):=by
 unfold pd J8 OO;by_cases k4:e.kind=4
 ·rw [zaa (by simpa using k4),zaa k4]
 rw [zab (by simpa using k4),zab k4];by_cases k5:e.kind=5
 ·rw [zaa (by simpa using k5),S4 _ _ h1,zaa k5];rfl
 rw [zab (by simpa using k5),zab k5];by_cases k6:e.kind=6
 ·rw [zaa (by simpa using k6),Ia _ _ h1,zaa k6];rfl
 rw [zab (by simpa using k6),zab k6];by_cases k7:e.kind=7
 ·rw [zaa (by simpa using k7),zaa k7]
 rw [zab (by simpa using k7),zab k7];by_cases k8:e.kind=8
 ·rw [zaa (by simpa using k8),S4 _ _ h2,zaa k8];rfl
 rw [zab (by simpa using k8),zab k8];by_cases k9:e.kind=9
 ·rw [zaa (by simpa using k9),Ia _ _ h2,zaa k9];rfl
 rw [zab (by simpa using k9),zab k9];by_cases Bm:e.kind=10
 ·rw [zaa (by simpa using Bm),zaa Bm]
 rw [zab (by simpa using Bm),zab Bm];by_cases LS:e.kind=11
 ·rw [zaa (by simpa using LS),zaa LS]
 rw [zab (by simpa using LS),zab LS];by_cases UN:e.kind=12
 ·rw [zaa (by simpa using UN),zaa UN]
 rw [zab (by simpa using UN),zab UN];by_cases UO:e.kind=13
 ·rw [zaa (by simpa using UO),zaa UO]
 rw [zab (by simpa using UO),zab UO]
theorem UW (s:Sub) (e:Event):(J8 s e).numbers.length<=s.numbers.length+1/\(J8 s e).cA.length<=s.cA.length+1:=by
 unfold J8;split
 ·simp
 ·exact OP s e
def S8 (b:Bk) (e:Event):List Sub :=
 if e.kind=3 then b.bh++[AZ e]
 else if e.kind=1∨e.kind=2∨e.kind=14∨e.kind=15 then b.bh
 else b.bh.set (lS b e.sub).toNat (J8 (nth b.bh (lS b e.sub).toNat) e)
def Qn (b:Bk) (e:Event):List Int:=if e.kind=4 then b.ended++[e.sub] else b.ended
theorem JQ (b:Bk) (e:Event) (last:Int) (n:Nat) (h:BB n b) (hn:n<=10000) (f:EL b e last):∃ b',im b e=some b'/\BB (n+1) b'/\b'.bh=S8 b e/\b'.ended=Qn b e:=by
 have ha:=h.Nz;have hs:=h.bh;have he:=h.ended;have up:=h.up;unfold im;rw [af (by omega),af (by omega),af (by omega)];unfold S8 Qn;simp only [zcc];by_cases k1:e.kind=1
 ·have n3:¬e.kind=3:=by omega
  have n4:¬e.kind=4:=by omega
  rw [zaa (by simpa using k1),af (by simp only [zam];omega),zab n3,zaa (.inl k1),zab n4];exact ⟨_,rfl,⟨by simp only [zak,zam];omega,up.bh,up.ended,up.nums⟩,rfl,rfl⟩
 rw [zab (by simpa using k1)];by_cases k2:e.kind=2
 ·have n3:¬e.kind=3:=by omega
  have n4:¬e.kind=4:=by omega
  have hk:=f.acc k2;rw [zaa (by simpa using k2),Dd b _ (by omega),zac,show uy (λa:al=>a.id==e.aq) b.aM 0=Gq b e.aq from rfl,af hk,af (by omega),zab n3,zaa (.inr (.inl k2)),zab n4];exact ⟨_,rfl,⟨by simp only [zgc];omega,up.bh,up.ended,up.nums⟩,rfl,rfl⟩
 rw [zab (by simpa using k2)];by_cases k3:e.kind=3
 ·have n4:¬e.kind=4:=by omega
  rw [zaa (by simpa using k3),af (by simp only [zam];omega),zaa k3,zab n4];refine ⟨_,rfl,⟨up.Nz,by simp only [zak,zam];omega,up.ended,λs tv=>?_⟩,rfl,rfl⟩
  simp only [zbb,zby] at tv;rcases tv with tv|rfl
  ·exact up.nums s tv
  ·simp
 rw [zab (by simpa using k3),zab k3];have hj:∀ c:Bool,(c=true->e.kind=14∨e.kind=15)->(c=false->¬(e.kind=14∨e.kind=15))->∃ b',jD b e c=some b'/\BB (n+1) b'/\b'.bh=(if e.kind=1∨e.kind=2∨e.kind=14∨e.kind=15 then b.bh else b.bh.set (lS b e.sub).toNat (J8 (nth b.bh (lS b e.sub).toNat) e))/\b'.ended=(if e.kind=4 then b.ended++[e.sub] else b.ended):=λc hc1 VO=>by
  unfold jD;simp only [zcc];cases c with
  | true =>
   have:=hc1 rfl;rw [zaa rfl,zaa (.inr (.inr this)),zab (by omega)];exact ⟨_,rfl,up,rfl,rfl⟩
  | false =>
   have:=VO rfl;obtain ⟨sp,_,_⟩:=f.sub (by omega);have hm:=h.nums _ (jO (l:=b.bh) (k:=(lS b e.sub).toNat) (by omega));have hc:=UW (nth b.bh (lS b e.sub).toNat) e;rw [zab (by simp),Gp b _ (by omega),zac,af sp,af (by omega),NB _ _ (by omega) (by omega),zac,af sp,af (by omega)];have LU:∀ s,s∈b.bh.set (lS b e.sub).toNat (J8 (nth b.bh (lS b e.sub).toNat) e)->s.numbers.length<=n+1/\s.cA.length<=n+1:=λs tv=>by
    rcases List.mem_or_eq_of_mem_set tv with h9|rfl
    ·exact up.nums s h9
    ·omega
   rw [zab (show ¬(e.kind=1∨e.kind=2∨e.kind=14∨e.kind=15) by omega)];by_cases k4:e.kind=4
   ·rw [zaa (by simpa using k4),af (by simp only [zam];omega),zaa k4];exact ⟨_,rfl,⟨up.Nz,by simp only [zgc];omega,by simp only [zak,zam];omega,LU⟩,rfl,rfl⟩
   ·rw [zab (by simpa using k4),zab k4];exact ⟨_,rfl,⟨up.Nz,by simp only [zgc];omega,up.ended,LU⟩,rfl,rfl⟩
 by_cases OQ:e.kind=14
 ·rw [zaa (by simpa using OQ)];exact hj _ (λ_=>.inl OQ) (λk=>by simp [OQ] at k)
 ·rw [zab (by simpa using OQ)];exact hj _ (λk=>.inr (by simpa using k)) (λk=>by rw [zes] at k;omega)
def b0:Bk:=⟨[],[],[]⟩
theorem bb0:BB 0 b0:=⟨by simp [b0],by simp [b0],by simp [b0],λs h=>by simp [b0] at h⟩
def NC:List Event->Int->Int->Bk->Option (Int×Int)
 | [],_,_,_=>some (0,0)
 | e::l,i,last,b=>(pP b e last).bind λy=>if y≠0 then some (i,y) else (im b e).bind λb'=>NC l (i+1) e.at_ b'
def VC:Bk->Int->List Event->Prop
 | _,_,[]=>True
 | b,last,e::l=>EL b e last/\∃ b',im b e=some b'/\VC b' e.at_ l
def Yt (l:List Event):Prop:=∀ e,e∈l->e.name.length<=1000/\e.number.length<=1000
theorem OT:∀ (l:List Event) (i last:Int) (b:Bk) (n:Nat),BB n b->n+l.length<=10000->Yt l->∃ x,NC l i last b=some x/\(x.2=0->VC b last l)
 | [],i,last,b,n,_,_,_=>⟨_,rfl,λ_=>trivial⟩
 | e::l,i,last,b,n,hb,hl,hs=>by
  rw [zai] at hl;have he:=hs e (zah ..);obtain ⟨y,hy,f⟩:=OS b e last n hb (by omega) he.1 he.2;unfold NC;rw [hy,zac];by_cases h0:y=0
  ·rw [zab (by omega)];obtain ⟨b',ha,jZ,_⟩:=JQ b e last n hb (by omega) (f h0);rw [ha,zac];obtain ⟨x,h1,h2⟩:=OT l (i+1) e.at_ b' (n+1) jZ (by omega) (λz hz=>hs z (zag _ hz));exact ⟨x,h1,λh=>⟨f h0,b',ha,h2 h⟩⟩
  ·rw [zaa h0];exact ⟨_,rfl,λh=>absurd h h0⟩
theorem ND (bV:List Event) (hl:bV.length<=1000) (hs:Yt bV):sn bV=NC bV 0 0 b0:=by
 unfold sn;rw [zab (by simp;omega)];refine bj (step:=λs:Int×Int×List al×List Sub×List Int=>nO bV s.1 s.2.1 s.2.2.1 s.2.2.2.1 s.2.2.2.2) bV (λs=>s.2.1) (λs r=>NC r s.2.1 s.1 ⟨s.2.2.1,s.2.2.2.1,s.2.2.2.2⟩)
  (λs r=>0<=s.2.1/\Yt r/\∃ n,BB n ⟨s.2.2.1,s.2.2.2.1,s.2.2.2.2⟩/\n+r.length<=10000) (by omega) ?_ ?_ (s:=(0,0,[],[],[])) rfl ⟨by simp,hs,0,bb0,by omega⟩
 ·rintro ⟨last,i,a,s,en⟩ ⟨h1,_⟩ h2
  try simp only at h2
  refine ⟨(0,0),?_,rfl⟩;unfold nO;rw [zab (by simp only [zaj];omega)]
 ·rintro ⟨last,i,a,s,en⟩ e r ⟨h1,xr,n,hb,h2⟩ h3 h4 h5 h6;simp only at h1 h2 h3 h4 h5 h6 hb;rw [zai] at h2;have he:=xr e (zah ..);obtain ⟨y,hy,f⟩:=OS ⟨a,s,en⟩ e last n hb (by omega) he.1 he.2;unfold nO;simp only;rw [zaa (by simpa using h4),af ⟨h3,h4⟩,h5,hy,zac];by_cases h0:y=0
  ·obtain ⟨b',ha,jZ,_⟩:=JQ ⟨a,s,en⟩ e last n hb (by omega) (f h0);rw [zab (by simpa using h0),af ⟨h3,h4⟩,ha,zac,af ⟨h3,h4⟩,af ⟨by omega,by omega⟩];refine .inr ⟨(e.at_,i+1,b'.aM,b'.bh,b'.ended),rfl,⟨by simp only;omega,λz hz=>xr z (zag _ hz),n+1,jZ,by omega⟩,rfl,?_⟩
   simp only;rw [NC,hy,zac,zab (by omega),ha,zac]
  ·rw [zaa (by simpa using h0)];refine .inl ⟨_,rfl,?_⟩
   try simp only
   rw [NC,hy,zac,zaa h0]
theorem S9 (bV:List Event):∃ c,rp bV=some c/\(c=true->bV.length<=40/\Yt bV/\VC b0 0 bV):=by
 unfold rp;refine qV (step:=λs:Int=>tg bV s) (λc=>c=true->bV.length<=40/\Yt bV/\VC b0 0 bV) (λi=>0<=i/\i<=(bV.length:Int)/\i<=41/\Yt (bV.take i.toNat)) (λi=>(41-i).toNat) ?_ (s:=0) ⟨by omega,by omega,by omega,λe h=>by simp at h⟩ (by omega);rintro i ⟨h0,h1,h2,h3⟩;unfold tg;by_cases hc:i<(bV.length:Int)/\i<41
 ·rw [zaa (by simpa using hc),af ⟨h0,hc.1⟩,af (λ_=>⟨h0,hc.1⟩)];split
  ·exact .inl ⟨_,rfl,λh=>by simp at h⟩
  ·rename_i hb;rw [af ⟨by omega,by omega⟩];refine .inr ⟨i+1,rfl,⟨by omega,by omega,by omega,?_⟩,by omega⟩;rw [show (i+1).toNat=i.toNat+1 from by omega,mi (by omega)];intro e he;rcases zbb.1 he with he|he
   ·exact h3 e he
   ·rw [zby.1 he];simp at hb;omega
 ·rw [zab (by simpa using hc)];unfold qz;by_cases h40:(bV.length:Int) > 40
  ·rw [zaa (by simpa using h40)];exact .inl ⟨_,rfl,λh=>by simp at h⟩
  ·rw [zab (by simpa using h40)];have hs:Yt bV:=by
    have:bV.take i.toNat=bV:=zbw (by omega);rw [this] at h3;exact h3
   obtain ⟨x,hx,hv⟩:=OT bV 0 0 b0 0 bb0 (by omega) hs;rw [ND bV (by omega) hs,hx];exact .inl ⟨_,rfl,λh=>⟨by omega,hs,hv (by simpa using h)⟩⟩
theorem Ic {n:Nat} {w:W7} (h:WB n w):∀ s,s∈jI w->s.numbers.length<=n:=λs hs=>by
 obtain ⟨k,_,hk⟩:=List.mem_filterMap.1 hs;exact (h.nums k s hk).1
theorem LZ {n:Nat} {w:W7} (h:WB n w):(jI w).length<=n:=zdo (List.length_filterMap_le ..) h.added
theorem Ta (bV:List Event) (r:aa) (id:Int) (hl:bV.length<=5000) (hs:Sm r):∃ w,LV r.start bV w0=some w/\gj bV r id=some (Dc (jI w) r id):=by
 obtain ⟨w,a,h1,h2,h3⟩:=UP bV r.start hl;have:=UR bV r id ⟨a,jI w⟩ h3 (by have:=LZ h2;simp only;omega) (λs tv=>by have:=Ic h2 s tv;omega) hs;exact ⟨w,h1,this⟩
theorem Tb (u:aE):dO (aE.bJ u) (aE.bJ u)=true:=by
 simp [aE.bJ,dO,Mm]
abbrev sU (b:Bk):List Int:=b.bh.map (·.id)
structure wq (n:Nat) (w:W7) (b:Bk):Prop where
 wb:WB n w
 bb:BB n b
 ids:(sU b).Nodup
 Za:w.2.1.Pairwise (· < ·)
 mem:∀ k,k∈w.2.1↔k∈sU b
 ev:∀ k,(aC w.2.2.2.2.1 k).getD false=true↔k∈sU b
 look:∀ s,s∈b.bh->aC w.2.2.2.1 s.id=if s.id∈b.ended then none else some s
 keys:∀ k,k ∉ sU b->aC w.2.2.2.1 k=none
 Yu:∀ k,k∈sU b->1<=k/\k<=9999
 Tc:b.ended.Nodup
 Qo:∀ k,k∈b.ended->k∈sU b
 num:∀ s s' x,s∈b.bh->s'∈b.bh->x∈s.numbers->x∈s'.numbers->s.id=s'.id
 ne:∀ s,s∈b.bh->[] ∉ s.numbers
 acc:∀ s,s∈b.bh->1<=s.aq/\s.aq<=9999
theorem inv0:wq 0 w0 b0:=⟨wb0,bb0,by simp [sU,b0],by simp [w0],λk=>by simp [w0,b0],λk=>by simp [w0,b0,aC],λs h=>by simp [b0] at h,λk _=>by simp [w0,aC],λk h=>by simp [b0] at h,by simp [b0],λk h=>by simp [b0] at h,λs s' x h=>by simp [b0] at h,λs h=>by simp [b0] at h,λs h=>by simp [b0] at h⟩
theorem OU (f:Sub->Int) (y:Sub):∀ (l:List Sub) (i:Nat),i<l.length->f y=f (nth l i)->(l.set i y).map f=l.map f
 | [],i,h,_=>by simp at h
 | a::l,0,_,h=>by rw [fp] at h;simp [h]
 | a::l,i+1,h,hy=>by
  rw [eU] at hy;rw [List.set_cons_succ,zap,zap,OU f y l i (by rw [zai] at h;omega) hy]
theorem OV (y:Sub):∀ (l:List Sub) (i:Nat),i<l.length->(l.map (·.id)).Nodup->y.id=(nth l i).id->∀ s,s∈l.set i y->s=y∨(s∈l/\s.id≠y.id)
 | [],i,h,_,_,_,_=>by simp at h
 | a::l,0,_,hn,h,s,hs=>by
  rw [fp] at h;rw [List.set_cons_zero,zan] at hs;rw [zap,zcd] at hn;rcases hs with hs|hs
  ·exact .inl hs
  ·exact .inr ⟨zag _ hs,λe=>hn.1 (by rw [←h,←e];exact zci hs)⟩
 | a::l,i+1,h,hn,hy,s,hs=>by
  rw [eU] at hy;rw [zai] at h;rw [List.set_cons_succ,zan] at hs;rw [zap,zcd] at hn;rcases hs with rfl|hs
  ·exact .inr ⟨zah ..,λe=>hn.1 (by rw [e,hy];exact zci (jO (by omega)))⟩
  ·rcases OV y l i (by omega) hn.2 hy s hs with h1|⟨h1,h2⟩
   ·exact .inl h1
   ·exact .inr ⟨zag _ h1,h2⟩
theorem Yv (s:Sub) (e:Event):(OO s e).id=s.id:=by
 unfold OO;repeat' split
 all_goals rfl
theorem Yw (s:Sub) (e:Event):(J8 s e).id=s.id:=by
 unfold J8;split
 ·rfl
 ·exact Yv s e
theorem UX (s:Sub) (e:Event):(J8 s e).aq=s.aq:=by
 unfold J8 OO;repeat' split
 all_goals rfl
theorem UY (x z:List UInt8) (l:List (List UInt8)) (h:z∈Hi x l):z∈l:=(zcr.1 h).1
theorem Gr (s:Sub) (e:Event):∀ x,x∈(J8 s e).numbers->(e.kind=5/\x=e.number)∨x∈s.numbers:=λx hx=>by
 unfold J8 OO at hx
 repeat' split at hx
 all_goals first|(simp at hx;done)|exact .inr hx|skip
 ·rename_i k5;rcases (EJ _ _ _ _).1 hx with h|h
  ·exact .inl ⟨k5,h⟩
  ·exact .inr h
 ·exact .inr (UY _ _ _ hx)
theorem zq (b:Bk) (k:Int):(lS b k=-1/\k ∉ sU b)∨(0<=lS b k/\lS b k<(b.bh.length:Int)/\(nth b.bh (lS b k).toNat).id=k):=by
 rcases tC (λa:Sub=>a.id==k) b.bh 0 (by omega) with ⟨q,h⟩|⟨q1,q2,q3⟩
 ·refine .inl ⟨q,λhm=>?_⟩;obtain ⟨s,h1,h2⟩:=zdb.1 hm;have:=h s h1;simp [h2] at this
 ·refine .inr ⟨q1,by unfold lS;omega,?_⟩;rw [show (uy (λa:Sub=>a.id==k) b.bh 0-0).toNat=(lS b k).toNat from by unfold lS;omega] at q3;simpa using q3
theorem OW (x:Int):∀ (l:List Int),l.Pairwise (· < ·)->x ∉ l->(wo Hh x l).Pairwise (· < ·)
 | [],_,_=>by simp [wo]
 | y::t,h,hx=>by
  rw [zax] at h;rw [zan,not_or] at hx;unfold wo;by_cases hy:Hh y x=true
  ·rw [zaa hy,zax];refine ⟨λz hz=>?_,OW x t h.2 hx.2⟩;rcases (EJ _ _ _ _).1 hz with rfl|hz
   ·simpa [Hh] using hy
   ·exact h.1 z hz
  ·rw [zab hy,zax,zax];have cJ:x<y:=by simp [Hh] at hy;omega
   refine ⟨λz hz=>?_,h⟩;rcases zan.1 hz with rfl|hz
   ·exact cJ
   ·have:=h.1 z hz;omega
theorem wq.up {n:Nat} {w:W7} {b:Bk} (h:wq n w b):wq (n+1) w b:={ h with wb:=h.wb.up,bb:=h.bb.up }
theorem wq.find {n:Nat} {w:W7} {b:Bk} (h:wq n w b) {s s':Sub} (hs:s∈b.bh) (tv:s'∈b.bh) (e:s.id=s'.id):s=s':=by
 have key:∀ (l:List Sub),(l.map (·.id)).Nodup->s∈l->s'∈l->s=s':=by
  intro l
  induction l with
  | nil=>intro _ h;simp at h
  | cons a l ih =>
   intro hn h1 h2;rw [zap,zcd] at hn;rcases zan.1 h1 with h3|h3
   ·rcases zan.1 h2 with h4|h4
    ·rw [h3,h4]
    ·exact absurd (by rw [←h3,e];exact zci h4) hn.1
   ·rcases zan.1 h2 with h4|h4
    ·exact absurd (by rw [←h4,←e];exact zci h3) hn.1
    ·exact ih hn.2 h3 h4
 exact key _ h.ids hs tv
theorem Td (n:Nat) (w:W7) (b:Bk) (e:Event) (last:Int) (h:wq n w b) (hn:n<=10000) (f:EL b e last):∃ w' b',apO e w=some w'/\im b e=some b'/\wq (n+1) w' b':=by
 obtain ⟨w',e1,hw,ea,es,ee⟩:=JM n e w h.wb hn;obtain ⟨b',e2,hb,bs,be⟩:=JQ b e last n h.bb hn f;refine ⟨w',b',e1,e2,?_⟩;by_cases k0:e.kind=1∨e.kind=2∨e.kind=14∨e.kind=15
 ·have n3:¬e.kind=3:=by omega
  have n4:¬e.kind=4:=by omega
  unfold S5 at ea;rw [zab (λk=>n3 k.1)] at ea;unfold Ql at es;rw [zab n3,zab n4,zaa k0] at es;unfold evF at ee;rw [zab n3] at ee;unfold S8 at bs;rw [zab n3,zaa k0] at bs;unfold Qn at be;rw [zab n4] at be;have hi:sU b'=sU b:=by unfold sU;rw [bs]
  exact ⟨hw,hb,by rw [hi];exact h.ids,by rw [ea];exact h.Za,by rw [ea,hi];exact h.mem,by rw [ee,hi];exact h.ev,by rw [es,bs,be];exact h.look,by rw [es,hi];exact h.keys,by rw [hi];exact h.Yu,by rw [be];exact h.Tc,by rw [be,hi];exact h.Qo,by rw [bs];exact h.num,by rw [bs];exact h.ne,by rw [bs];exact h.acc⟩
 by_cases k3:e.kind=3
 ·have n4:¬e.kind=4:=by omega
  have UL:=f.add k3;have hni:e.sub ∉ sU b:=by
   rcases zq b e.sub with ⟨_,q⟩|⟨q,_⟩
   ·exact q
   ·omega
  have hr:=f.form.sub k0;have NR:(aC w.2.2.2.2.1 e.sub).getD false=false:=by
   cases hh:(aC w.2.2.2.2.1 e.sub).getD false with
   | false=>rfl
   | true=>exact absurd ((h.ev _).1 hh) hni
  unfold S5 at ea;rw [zaa ⟨k3,NR⟩] at ea;unfold Ql at es;rw [zaa k3] at es;unfold evF at ee;rw [zaa k3] at ee;unfold S8 at bs;rw [zaa k3] at bs;unfold Qn at be;rw [zab n4] at be;have hi:sU b'=sU b++[e.sub]:=by unfold sU;rw [bs,zdd];rfl
  have fi:e.sub ∉ b.ended:=λk=>hni (h.Qo _ k)
  refine ⟨hw,hb,?_,?_,?_,?_,?_,?_,?_,?_,?_,?_,?_,?_⟩
  ·rw [hi,zdj];exact ⟨h.ids,by simp,λa ha c hc=>by rw [zby.1 hc];exact λq=>hni (q▸ha)⟩
  ·rw [ea];exact OW _ _ h.Za (λk=>hni ((h.mem _).1 k))
  ·intro k;rw [ea,EJ,hi,zbb,zby,h.mem k];exact Or.comm
  ·intro k;rw [ee,dW,hi,zbb,zby];by_cases hk:k=e.sub
   ·simp [hk]
   ·rw [zab (by simpa using hk),h.ev k];simp [hk]
  ·intro s hs;rw [bs,zbb,zby] at hs;rw [es,be,dW];rcases hs with hs|rfl
   ·have:s.id≠e.sub:=λq=>hni (by rw [←q];exact zci hs);rw [zab (by simpa using this)];exact h.look s hs
   ·rw [zaa (by simp [AZ]),zab (by simpa [AZ] using fi)]
  ·intro k hk;rw [hi,zbb,zby,not_or] at hk;rw [es,dW,zab (by simpa using hk.2)];exact h.keys k hk.1
  ·intro k hk;rw [hi,zbb,zby] at hk;rcases hk with hk|rfl
   ·exact h.Yu k hk
   ·exact hr
  ·rw [be];exact h.Tc
  ·intro k hk;rw [be] at hk;rw [hi,zbb];exact .inl (h.Qo k hk)
  ·intro s s' x hs tv hx kq;rw [bs,zbb,zby] at hs tv;rcases hs with hs|rfl
   ·rcases tv with tv|rfl
    ·exact h.num s s' x hs tv hx kq
    ·simp [AZ] at kq
   ·simp [AZ] at hx
  ·intro s hs;rw [bs,zbb,zby] at hs;rcases hs with hs|rfl
   ·exact h.ne s hs
   ·simp [AZ]
  ·intro s hs;rw [bs,zbb,zby] at hs;rcases hs with hs|rfl
   ·exact h.acc s hs
   ·exact f.form.acct k3
 obtain ⟨⟨s0,s1⟩,fi,h5⟩:=f.sub (by omega);have hid:(nth b.bh (lS b e.sub).toNat).id=e.sub:=by
  rcases zq b e.sub with ⟨q,_⟩|⟨_,_,q⟩
  ·omega
  ·exact q
 have QG:nth b.bh (lS b e.sub).toNat∈b.bh:=jO (by omega);have cJ:(lS b e.sub).toNat<b.bh.length:=by omega
 generalize jJ:(lS b e.sub).toNat=i at hid QG cJ;generalize Ml:nth b.bh i=s at hid QG;unfold S5 at ea;rw [zab (λk=>k3 k.1)] at ea;unfold evF at ee;rw [zab k3] at ee;unfold S8 at bs;rw [zab k3,zab k0,jJ,Ml] at bs;have qK:(J8 s e).id=s.id:=Yw s e;have hi:sU b'=sU b:=by unfold sU;rw [bs];exact OU _ _ _ _ cJ (by rw [Ml];exact qK)
 have uG:∀ z,z∈b'.bh->z=J8 s e∨(z∈b.bh/\z.id≠e.sub):=λz hz=>by
  rw [bs] at hz;have:=OV _ _ _ cJ h.ids (by rw [Ml];exact qK) z hz
  rwa [qK,hid] at this
 have hnn:∀ z z' x,z∈b'.bh->z'∈b'.bh->x∈z.numbers->x∈z'.numbers->z.id=z'.id:=λz z' x hz Aq hx kq=>by
  rcases uG z hz with rfl|⟨hz,hzi⟩
  ·rcases uG z' Aq with rfl|⟨Aq,hzi'⟩
   ·rfl
   ·rcases Gr s e x hx with ⟨k5,rfl⟩|hx
    ·exact absurd kq (h5 k5 z' Aq)
    ·rw [qK];exact h.num s z' x QG Aq hx kq
  ·rcases uG z' Aq with rfl|⟨Aq,hzi'⟩
   ·rcases Gr s e x kq with ⟨k5,rfl⟩|kq
    ·exact absurd hx (h5 k5 z hz)
    ·rw [qK];exact h.num z s x hz QG hx kq
   ·exact h.num z z' x hz Aq hx kq
 have pU:∀ z,z∈b'.bh->[] ∉ z.numbers:=λz hz hx=>by
  rcases uG z hz with rfl|⟨hz,_⟩
  ·rcases Gr s e [] hx with ⟨k5,hx⟩|hx
   ·exact f.form.num k5 hx.symm
   ·exact h.ne s QG hx
  ·exact h.ne z hz hx
 have VT:∀ z,z∈b'.bh->1<=z.aq/\z.aq<=9999:=λz hz=>by
  rcases uG z hz with rfl|⟨hz,_⟩
  ·rw [UX];exact h.acc s QG
  ·exact h.acc z hz
 have Nx:e.sub∈sU b:=by rw [←hid];exact zci QG
 by_cases k4:e.kind=4
 ·unfold Ql at es;rw [zab k3,zaa k4] at es;unfold Qn at be;rw [zaa k4] at be;refine ⟨hw,hb,by rw [hi];exact h.ids,by rw [ea];exact h.Za,by rw [ea,hi];exact h.mem,by rw [ee,hi];exact h.ev,?_,?_,by rw [hi];exact h.Yu,?_,?_,hnn,pU,VT⟩
  ·intro z hz;rw [es,be,tq _ _ h.wb.keys];rcases uG z hz with rfl|⟨hz,hzi⟩
   ·rw [qK,hid,zaa (by simp),zaa (by simp)]
   ·rw [zab (by simpa using hzi),h.look z hz];simp [hzi]
  ·intro k hk;rw [hi] at hk;rw [es,tq _ _ h.wb.keys];split
   ·rfl
   ·exact h.keys k hk
  ·rw [be,zdj];exact ⟨h.Tc,by simp,λa ha c hc=>by rw [zby.1 hc];exact λq=>fi (q▸ha)⟩
  ·intro k hk;rw [be,zbb,zby] at hk;rw [hi];rcases hk with hk|rfl
   ·exact h.Qo k hk
   ·exact Nx
 ·unfold Ql at es;rw [zab k3,zab k4,zab k0] at es;unfold Qn at be;rw [zab k4] at be;have hl:=h.look s QG;rw [hid,zab fi] at hl;rw [hl] at es;simp only at es;have J1:J8 s e=OO s e:=by unfold J8;rw [zab k4]
  refine ⟨hw,hb,by rw [hi];exact h.ids,by rw [ea];exact h.Za,by rw [ea,hi];exact h.mem,by rw [ee,hi];exact h.ev,?_,?_,by rw [hi];exact h.Yu,by rw [be];exact h.Tc,by rw [be,hi];exact h.Qo,hnn,pU,VT⟩
  ·intro z hz;rw [es,be,dW];rcases uG z hz with rfl|⟨hz,hzi⟩
   ·rw [qK,hid,zaa (by simp),zab fi,J1]
   ·rw [zab (by simpa using hzi)];exact h.look z hz
  ·intro k hk;rw [hi] at hk;have:k≠e.sub:=λq=>hk (q▸Nx)
   rw [es,dW,zab (by simpa using this)];exact h.keys k hk
def Mq (t:Int):List Event->Bk->Option Bk
 | [],b=>some b
 | e::l,b=>if e.at_<=t then (im b e).bind (Mq t l) else Mq t l b
theorem L0:∀ (l:List Event) (b:Bk) (last:Int),VC b last l->∀ e,e∈l->last<=e.at_
 | [],_,_,_,e,h=>by simp at h
 | a::l,b,last,h,e,he=>by
  obtain ⟨f,b',_,hv⟩:=h;have h1:=f.form.at_;rcases zan.1 he with rfl|he
  ·exact h1
  ·have:=L0 l b' a.at_ hv e he;omega
theorem L4 (t:Int) (w:W7) (b:Bk):∀ (l:List Event),(∀ e,e∈l->t<e.at_)->LV t l w=some w/\Mq t l b=some b
 | [],_=>⟨rfl,rfl⟩
 | e::l,h=>by
  have he:=h e (zah ..);rw [LV,zab (by omega),Mq,zab (by omega)];exact L4 t w b l λz hz=>h z (zag _ hz)
theorem Te {n m:Nat} {w:W7} {b:Bk} (h:wq n w b) (hm:n<=m):wq m w b:=by
 induction m with
 | zero=>rwa [show n=0 from by omega] at h
 | succ m ih =>
  by_cases e:n=m+1
  ·rwa [e] at h
  ·exact (ih (by omega)).up
theorem OX (t:Int):∀ (l:List Event) (n:Nat) (w:W7) (b:Bk) (last:Int),wq n w b->n+l.length<=10000->VC b last l->∃ w' b',LV t l w=some w'/\Mq t l b=some b'/\wq (n+l.length) w' b'
 | [],n,w,b,_,h,_,_=>⟨w,b,rfl,rfl,h⟩
 | e::l,n,w,b,last,h,hn,hv=>by
  have MB:=hv;obtain ⟨f,b1,Hn,hv⟩:=hv;rw [zai] at hn ⊢;by_cases ht:e.at_<=t
  ·obtain ⟨w',b',e1,e2,hi⟩:=Td n w b e last h (by omega) f;rw [Hn] at e2;cases e2;obtain ⟨w2,b2,q1,q2,q3⟩:=OX t l (n+1) w' b1 e.at_ hi (by omega) hv;refine ⟨w2,b2,?_,?_,?_⟩
   ·rw [LV,zaa ht,e1];exact q1
   ·rw [Mq,zaa ht,Hn];exact q2
   ·rw [show n+(l.length+1)=n+1+l.length from by omega];exact q3
  ·have hs:∀ z,z∈e::l->t<z.at_:=λz hz=>by
    rcases zan.1 hz with rfl|hz
    ·omega
    ·have:=L0 l b1 e.at_ hv z hz;omega
   obtain ⟨q1,q2⟩:=L4 t w b _ hs;exact ⟨w,b,q1,q2,Te h (by omega)⟩
theorem Tf (bV:List Event) (t:Int) (b:Bk) (hl:bV.length<=10000) (h:Mq t bV b0=some b):rq bV t=some b:=by
 unfold rq;rw [←h];refine bj (step:=λs:Int×List al×List Sub×List Int=>pf bV t s.1 s.2.1 s.2.2.1 s.2.2.2) bV (λs=>s.1) (λs r=>Mq t r ⟨s.2.1,s.2.2.1,s.2.2.2⟩) (λs r=>0<=s.1/\Mq t r ⟨s.2.1,s.2.2.1,s.2.2.2⟩=some b) (by omega) ?_ ?_ (s:=(0,[],[],[])) rfl ⟨by simp,h⟩
 ·rintro ⟨i,a,s,en⟩ ⟨h1,_⟩ h2;simp only at h1 h2;refine ⟨_,?_,rfl⟩;unfold pf;rw [zab (by simp only [zaj];omega)]
 ·rintro ⟨i,a,s,en⟩ e r ⟨h1,h2⟩ h3 h4 h5 h6;simp only at h1 h2 h3 h4 h5 h6;unfold pf;simp only;rw [zaa (by simpa using h4),af ⟨h3,h4⟩,h5];rw [Mq] at h2 ⊢;by_cases ha:e.at_<=t
  ·rw [zaa ha] at h2 ⊢;rw [zaa (by simpa using ha),af ⟨h3,h4⟩];cases hb:im ⟨a,s,en⟩ e with
   | none=>rw [hb] at h2;cases h2
   | some b' =>
    rw [hb] at h2;rw [zac,af ⟨by omega,by omega⟩];exact .inr ⟨(i+1,b'.aM,b'.bh,b'.ended),rfl,⟨by simp only;omega,h2⟩,rfl,rfl⟩
  ·rw [zab ha] at h2 ⊢;rw [zab (by simpa using ha),af ⟨by omega,by omega⟩];exact .inr ⟨(i+1,a,s,en),rfl,⟨by simp only;omega,h2⟩,rfl,rfl⟩
theorem Ie:∀ (l m:List Int),l.Nodup->(∀ k,k∈l->k∈m)->l.length<=m.length
 | [],m,_,_=>by simp
 | a::l,m,hn,h=>by
  rw [zcd] at hn;have ha:=h a (zah ..);have:=Ie l (m.erase a) hn.2 (λk hk=>(List.mem_erase_of_ne (λq=>hn.1 (by rw [←q];exact hk))).2 (h k (zag _ hk)));rw [List.length_erase_of_mem ha] at this;have:=List.length_pos_of_mem ha;rw [zai];omega
section state
variable {n:Nat} {w:W7} {b:Bk}
theorem wq.OY (h:wq n w b) {k:Int} {s:Sub} (hs:aC w.2.2.2.1 k=some s):s∈b.bh/\s.id=k/\k ∉ b.ended:=by
 by_cases hk:k∈sU b
 ·obtain ⟨z,h1,h2⟩:=zdb.1 hk;have:=h.look z h1;rw [h2,hs] at this;split at this
  ·cases this
  ·cases this;exact ⟨h1,h2,by assumption⟩
 ·rw [h.keys k hk] at hs;cases hs
theorem wq.Qp (h:wq n w b) {k:Int} (hk:k∈sU b) (he:k ∉ b.ended):∃ s,aC w.2.2.2.1 k=some s/\s∈b.bh/\s.id=k:=by
 obtain ⟨z,h1,h2⟩:=zdb.1 hk;have:=h.look z h1;rw [h2,zab he] at this;exact ⟨z,this,h1,h2⟩
theorem wq.Ig (h:wq n w b) {k:Int} (he:k∈b.ended):aC w.2.2.2.1 k=none:=by
 cases hs:aC w.2.2.2.1 k with
 | none=>rfl
 | some s=>exact absurd he (h.OY hs).2.2
theorem wq.L5 (h:wq n w b):∀ (l:List Int),(∀ k,k∈l->k∈sU b)->(l.filterMap (aC w.2.2.2.1)).map (·.id)=l.filter λk=>decide (k ∉ b.ended)
 | [],_=>rfl
 | k::l,hl=>by
  have ih:=wq.L5 h l λz hz=>hl z (zag _ hz)
  by_cases he:k∈b.ended
  ·rw [zed,h.Ig he,zbk,zab (by simpa using he)];exact ih
  ·obtain ⟨s,h1,_,h3⟩:=h.Qp (hl k (zah ..)) he;rw [zed,h1,zbk,zaa (by simpa using he),zap,ih,h3]
theorem wq.JR (h:wq n w b):(jI w).map (·.id)=w.2.1.filter λk=>decide (k ∉ b.ended):=h.L5 _ λk hk=>(h.mem k).1 hk
theorem wq.addN (h:wq n w b):w.2.1.Nodup:=h.Za.imp λh=>by omega
theorem wq.VU (h:wq n w b):((jI w).map (·.id)).Nodup:=by rw [h.JR];exact List.Pairwise.filter _ h.addN
theorem wq.yM (h:wq n w b) {s:Sub} (hs:s∈jI w):s∈b.bh/\s.id ∉ b.ended:=by
 obtain ⟨k,_,hk⟩:=List.mem_filterMap.1 hs;obtain ⟨h1,h2,h3⟩:=h.OY hk;exact ⟨h1,by rw [h2];exact h3⟩
theorem wq.count (h:wq n w b):(jI w).length+b.ended.length<=b.bh.length:=by
 have:=Ie ((jI w).map (·.id)++b.ended) (sU b) (by
  rw [zdj];refine ⟨h.VU,h.Tc,λa ha c hc=>?_⟩;rw [h.JR,zcr] at ha;intro q;have:=ha.2;simp at this;exact this (q▸hc)) (λk hk=>by
  rcases zbb.1 hk with hk|hk
  ·rw [h.JR,zcr] at hk;exact (h.mem k).1 hk.1
  ·exact h.Qo k hk)
 simpa [sU] using this
theorem filter_lt:∀ (l:List Int) (k:Int),l.Pairwise (· < ·)->l.filter (λz=>decide (z<k+1))=l.filter (λz=>decide (z<k))++if k∈l then [k] else []
 | [],k,_=>rfl
 | a::l,k,h=>by
  rw [zax] at h;have ih:=filter_lt l k h.2;by_cases h1:a<k
  ·rw [zbk,zaa (by simp;omega),zbk,zaa (by simp;omega),ih,List.cons_append];have:(k∈a::l)=(k∈l):=by simp;intro q;omega
   simp only [this]
  ·have hz:∀ z,z∈l->¬z<k:=λz hz=>by have:=h.1 z hz;omega
   have e1:l.filter (λz=>decide (z<k))=[]:=zdr.2 λz Aq=>by simpa using hz z Aq
   by_cases h2:a=k
   ·have e2:l.filter (λz=>decide (z<k+1))=[]:=zdr.2 λz Aq=>by have:=h.1 z Aq;simp;omega
    rw [zbk,zaa (by simp;omega),zbk,zab (by simp;omega),e1,e2,h2,zaa (zah ..)];rfl
   ·have hk:k ∉ l:=λq=>hz k q (by have:=h.1 k q;omega);rw [zbk,zab (by simp;omega),zbk,zab (by simp;omega),ih];have:k ∉ a::l:=by simp;exact ⟨λq=>h2 q.symm,hk⟩
    rw [zab hk,zab this]
theorem Yx (b:Bk) (L:List Sub) (h1:b.aM.length<=100000) (h2:L.length<=100000):∃ a,lP b L=some ⟨a,L⟩:=by
 unfold lP;have:=qV (step:=λs:Int×List al=>qB b L s.1 s.2) (λc=>c.bh=L) (λs=>1<=s.1/\s.1<=10000/\s.2.length<=100000) (λs=>(10000-s.1).toNat) ?_ (s:=(1,[])) ⟨by omega,by omega,by simp⟩ (by omega)
 ·obtain ⟨c,hc,e⟩:=this;exact ⟨c.aM,by rw [hc,←e]⟩
 rintro ⟨k,a⟩ ⟨k1,k2,k3⟩;simp only at k1 k2 k3;unfold qB;by_cases c:k<=9999/\(a.length:Int)<(b.aM.length:Int)
 ·rw [zaa (by simpa using c),Dd b k (by omega),zac];split
  ·rw [af ⟨by omega,by omega⟩];exact .inr ⟨(k+1,a),rfl,⟨by simp only;omega,by simp only;omega,k3⟩,by simp only;omega⟩
  ·rename_i hn;have sp:0<=uy (λa:al=>a.id==k) b.aM 0/\uy (λa:al=>a.id==k) b.aM 0<(b.aM.length:Int):=by
    simp at hn;rcases tC (λa:al=>a.id==k) b.aM 0 (by omega) with ⟨q,_⟩|⟨q1,q2,_⟩
    ·omega
    ·omega
   rw [af sp];generalize uy (λa:al=>a.id==k) b.aM 0=y;have:=qV (step:=λs:Int×List Int=>qA b L k a y s.1 s.2) (λr=>∃ x,r=.inl (k+1,a++[x])) (λs=>0<=s.1/\s.1<=(L.length:Int)/\(s.2.length:Int)<=s.1) (λs=>((L.length:Int) - s.1).toNat) ?_ (s:=(0,[])) ⟨by simp,by simp,by simp⟩ (by simp;omega)
   ·obtain ⟨r,hr,x,rfl⟩:=this;exact .inr ⟨(k+1,a++[x]),hr,⟨by simp only;omega,by simp only;omega,by simp only [zak,zam];omega⟩,by simp only;omega⟩
   rintro ⟨i,o⟩ ⟨i1,i2,i3⟩;simp only at i1 i2 i3;unfold qA;by_cases hi:i<(L.length:Int)
   ·rw [zaa (by simpa using hi),af ⟨i1,hi⟩];split
    ·rw [af ⟨i1,hi⟩,af (by simp only [zam];omega),af ⟨by omega,by omega⟩];exact .inr ⟨(i+1,o++[(nth L i.toNat).id]),rfl,⟨by simp only;omega,by simp only;omega,by simp only [zak,zam];omega⟩,by simp only;omega⟩
    ·rw [af ⟨by omega,by omega⟩];exact .inr ⟨(i+1,o),rfl,⟨by simp only;omega,by simp only;omega,by simp only;omega⟩,by simp only;omega⟩
   ·rw [zab (by simpa using hi)];unfold nP;rw [af (by simp only [zam];omega),af ⟨by omega,by omega⟩];exact .inl ⟨_,rfl,_,rfl⟩
 ·rw [zab (by simpa using c)];exact .inl ⟨_,rfl,rfl⟩
theorem Tg (bV:List Event) (t:Int) (hl:bV.length<=10000) (hu:Mq t bV b0=some b) (h:wq n w b) (hn:n<=10000):∃ a,sr bV t=some ⟨a,jI w⟩:=by
 unfold sr;rw [Tf bV t b hl hu,zac];have hs:=h.bb.bh;have ha:=h.bb.Nz;have he:=h.bb.ended;have hc:=h.count
 let A:Int->List Sub:=λk=>(w.2.1.filter λz=>decide (z<k)).filterMap (aC w.2.2.2.1)
 have sub:∀ k,(A k).Sublist (jI w):=λk=>List.Sublist.filterMap _ (List.filter_sublist ..)
 have lenA:∀ k,(A k).length<=(jI w).length:=λk=>(sub k).length_le
 have:=qV (step:=λs:Int×List Sub=>lQ b s.1 s.2) (λc=>c.bh=jI w) (λs=>1<=s.1/\s.1<=10000/\s.2=A s.1) (λs=>(10000-s.1).toNat) ?_ (s:=(1,[])) ⟨by omega,by omega,?_⟩ (by omega)
 ·obtain ⟨c,hc,e⟩:=this;exact ⟨c.aM,by rw [hc,←e]⟩
 ·rintro ⟨k,l⟩ ⟨k1,k2,k3⟩;simp only at k1 k2 k3;subst k3;have Qk:=lenA k;unfold lQ;rw [af (λ_=>⟨by omega,by omega⟩)];by_cases c:k<=9999/\((A k).length:Int)<(b.bh.length:Int) - (b.ended.length:Int)
  ·rw [zaa (by simpa using c),Gp b k (by omega),zac,EK b k (by omega),dR,zac];have hA:A (k+1)=A k++(if k∈w.2.1 then [k] else []).filterMap (aC w.2.2.2.1):=by
    show (w.2.1.filter λz=>decide (z<k+1)).filterMap _=_;rw [filter_lt _ _ h.Za,List.filterMap_append]
   rcases zq b k with ⟨q1,q2⟩|⟨q1,q2,q3⟩
   ·rw [q1];simp only [show decide ((-1:Int)>=0)=false from rfl,zcv,zay,zbs];rw [af ⟨by omega,by omega⟩];refine .inr ⟨(k+1,A k),rfl,⟨by simp only;omega,by simp only;omega,?_⟩,by simp only;omega⟩;simp only;rw [hA,zab (λm=>q2 ((h.mem k).1 m))];simp
   ·have d1:decide (lS b k>=0)=true:=by simpa using q1
    have hm:nth b.bh (lS b k).toNat∈b.bh:=jO (by omega);have hk:k∈sU b:=by rw [←q3];exact zci hm
    rw [zaa ((h.mem k).2 hk)] at hA;simp only [d1,zbt,zcg];by_cases DP:k∈b.ended
    ·simp only [DP,zgj,zbu,zay,zbs];rw [af ⟨by omega,by omega⟩];refine .inr ⟨(k+1,A k),rfl,⟨by simp only;omega,by simp only;omega,?_⟩,by simp only;omega⟩;simp only;rw [hA,zed,h.Ig DP];simp
    ·simp only [DP,zfj,zcb,zbt];rw [af ⟨q1,q2⟩,af (by simp only [zam];omega),af ⟨by omega,by omega⟩];refine .inr ⟨(k+1,A k++[nth b.bh (lS b k).toNat]),rfl,⟨by simp only;omega,by simp only;omega,?_⟩,by simp only;omega⟩;simp only;have hl:=h.look _ hm;rw [q3,zab DP] at hl;rw [hA,zed,hl];simp
  ·rw [zab (by simpa using c)];obtain ⟨a,ha⟩:=Yx b (A k) (by omega) (by omega);rw [ha];refine .inl ⟨_,rfl,?_⟩;simp only;by_cases hk:k<=9999
   ·exact (sub k).eq_of_length_le (by omega)
   ·show (w.2.1.filter λz=>decide (z<k)).filterMap _=_;rw [zdt.2 λz hz=>by have:=h.Yu z ((h.mem z).1 hz);simp;omega];rfl
 ·show []=(w.2.1.filter λz=>decide (z<1)).filterMap _;rw [zdr.2 λz hz=>by have:=h.Yu z ((h.mem z).1 hz);simp;omega];rfl
end state
def Eh (x:List UInt8) (L:List Sub):Option Sub:=L.find? λs=>decide (x∈s.numbers)
theorem A0 (id:Int) (x:List UInt8):∀ (ns:List (List UInt8)) (o:List ((List UInt8)×Int)),aC (ns.foldl (λo n=>c8 o n id) o) x=if x∈ns then some id else aC o x
 | [],o=>by simp
 | a::ns,o=>by
  rw [List.foldl_cons,A0 id x ns,dW];by_cases h:x∈ns
  ·rw [zaa h,zaa (zag _ h)]
  ·rw [zab h];by_cases h2:x=a
   ·rw [zaa (by simpa using h2),zaa (by rw [h2];exact zah ..)]
   ·rw [zab (by simpa using h2),zab (by simp [h,h2])]
theorem L6 (x:List UInt8):∀ (L:List Sub) (o:List ((List UInt8)×Int)),(∀ s s',s∈L->s'∈L->x∈s.numbers->x∈s'.numbers->s.id=s'.id)->aC (Yo L o) x=match Eh x L with|some s=>some s.id|none=>aC o x
 | [],o,_=>rfl
 | s::l,o,h=>by
  have ih:=L6 x l (s.numbers.foldl (λo n=>c8 o n s.id) o) λa b ha hb=>h a b (zag _ ha) (zag _ hb)
  unfold Yo;rw [ih];unfold Eh;rw [List.find?_cons];by_cases hx:x∈s.numbers
  ·rw [show decide (x∈s.numbers)=true from by simpa using hx];simp only;cases hf:l.find? λs=>decide (x∈s.numbers) with
   | none=>simp only [A0,hx,zbt]
   | some s' =>
    have h1:=List.mem_of_find?_eq_some hf;have h2:=List.find?_some hf;simp only;rw [h s s' (zah ..) (zag _ h1) hx (by simpa using h2)]
  ·rw [show decide (x∈s.numbers)=false from by simpa using hx];simp only;cases hf:l.find? λs=>decide (x∈s.numbers) with
   | none=>simp only [A0,hx,zbs]
   | some s'=>rfl
theorem L7:∀ (L:List Sub),(L.map (·.id)).Nodup->∀ s,s∈L->LX s.id L=(s,true)
 | [],_,s,h=>by simp at h
 | a::l,hn,s,h=>by
  rw [zap,zcd] at hn;unfold LX;rcases zan.1 h with rfl|h
  ·rw [zaa rfl]
  ·rw [zab (λq=>hn.1 (by rw [q];exact zci h))];exact L7 l hn.2 s h
section state
variable {n:Nat} {w:W7} {b:Bk}
theorem wq.own (h:wq n w b) (x:List UInt8):JO (jI w) x=match Eh x (jI w) with|some s=>(s,true)|none=>(u6,false):=by
 unfold JO;rw [L6 x _ _ λs s' hs tv=>h.num s s' x (h.yM hs).1 (h.yM tv).1];cases hf:Eh x (jI w) with
 | none=>simp [aC]
 | some s =>
  simp only;exact L7 _ h.VU s (List.mem_of_find?_eq_some hf)
theorem Th (bV:List Event) (x:List UInt8) (t:Int) (hl:bV.length<=10000) (hu:Mq t bV b0=some b) (h:wq n w b) (hn:n<=10000):sv bV x t=some (match Eh x (jI w) with|some s=>(s.id,true)|none=>(0,false)):=by
 unfold sv;obtain ⟨a,ha⟩:=Tg bV t hl hu h hn;rw [ha,zac];have hlen:=LZ h.wb;have Yp:=Ic h.wb;refine bj (step:=λs:Int=>nQ x ⟨a,jI w⟩ s) (jI w) (λs=>s) (λs r=>some (match Eh x r with|some s=>(s.id,true)|none=>(0,false))) (λs r=>0<=s/\∀ z,z∈r->z.numbers.length<=10000) (by omega) ?_ ?_ (s:=0) rfl ⟨by omega,λz hz=>by have:=Yp z hz;omega⟩
 ·rintro i ⟨h1,_⟩ h2;refine ⟨_,?_,rfl⟩;unfold nQ;rw [zab (by simp only [zaj];omega)];rfl
 ·rintro i s r ⟨h1,h2⟩ h3 h4 h5 h6;have hs:=h2 s (zah ..);unfold nQ;rw [zaa (by simpa using h4),af ⟨h3,h4⟩,h5,JP _ _ (by omega),zac];by_cases hx:x∈s.numbers
  ·rw [zaa (by simpa using hx),af ⟨h3,h4⟩];refine .inl ⟨_,rfl,?_⟩;unfold Eh;rw [List.find?_cons,show decide (x∈s.numbers)=true from by simpa using hx]
  ·rw [zab (by simpa using hx),af ⟨by omega,by omega⟩];refine .inr ⟨i+1,rfl,⟨by omega,λz hz=>h2 z (zag _ hz)⟩,rfl,?_⟩;unfold Eh;rw [List.find?_cons,show decide (x∈s.numbers)=false from by simpa using hx]
theorem Yy (bV:List Event) (s:Sub) (t:Int) (hl:bV.length<=10000) (hu:Mq t bV b0=some b) (h:wq n w b) (hn:n<=10000) (hs:s∈jI w):vY bV s.id t=some (s,true):=by
 unfold vY;have h1:=h.bb.bh;have h2:=h.bb.ended;obtain ⟨m,e⟩:=h.yM hs;rw [Tf bV t b hl hu,zac,Gp b _ (by omega),zac,EK b _ (by omega),dR,zac];rcases zq b s.id with ⟨_,q⟩|⟨q1,q2,q3⟩
 ·exact absurd (zci m) q
 ·rw [show decide (lS b s.id<0)=false from by simp;omega,show decide (s.id∈b.ended)=false from by simpa using e];simp only [zcb,zbt,zeb,zay,zbs];rw [af ⟨q1,q2⟩,h.find (jO (by omega)) m q3]
theorem wq.Yz (h:wq n w b):Eh [] (jI w)=none:=by
 cases hf:Eh [] (jI w) with
 | none=>rfl
 | some s =>
  have h1:=List.mem_of_find?_eq_some hf;have h2:=List.find?_some hf;exact absurd (by simpa using h2) (h.ne s (h.yM h1).1)
theorem OZ (bV:List Event) (r:aa) (id:Int) (x:List UInt8) (hl:bV.length<=10000) (hu:Mq r.start bV b0=some b) (h:wq n w b) (hn:n<=10000) (hx:x=zO r) (e0:cW r=0) (p0:r.part=0):jE bV r id x=some (Dc (jI w) r id):=by
 subst hx;unfold jE Dc;rw [Th bV _ _ hl hu h hn,zac,h.own,zab (show ¬(cW r≠0) from λk=>k e0),zab (show ¬(r.part≠0) from λk=>k p0)];cases hf:Eh (zO r) (jI w) with
 | none=>simp [Gn]
 | some s =>
  have hm:=List.mem_of_find?_eq_some hf;simp only [zbu,zcw];by_cases hz:zO r=[]
  ·rw [hz,h.Yz] at hf;cases hf
  ·rw [zab (by simpa using hz),Yy bV s _ hl hu h hn hm,zac];simp only [zfl,zbs];by_cases hc:s.bn=true/\r.bT=false
   ·rw [zaa (by simp [hc]),zaa hc];rfl
   ·rw [zab (by simpa using hc),zab hc]
theorem Ti (bV:List Event) (r:aa) (id:Int) (hl:bV.length<=10000) (hu:Mq r.start bV b0=some b) (h:wq n w b) (hn:n<=10000) (hs:Sm r):pQ bV r id=some (Dc (jI w) r id):=by
 unfold pQ;rw [yH r hs,zac];by_cases h1:cW r=0
 ·rw [zab (by simpa using h1)];by_cases h2:r.part=0
  ·rw [zab (by simpa using h2)];split
   ·rename_i hi;exact OZ bV r id _ hl hu h hn (by unfold zO;rw [zaa hi]) h1 h2
   ·rename_i hi;exact OZ bV r id _ hl hu h hn (by unfold zO;rw [zab hi]) h1 h2
  ·rw [zaa (by simpa using h2)];unfold Dc;rw [zab (show ¬(cW r≠0) from λk=>k h1),zaa h2];rfl
 ·rw [zaa (by simpa using h1)];unfold Dc;rw [zaa h1];rfl
end state
theorem O0 (bV:List Event) (t:Int) (hl:bV.length<=40) (hv:VC b0 0 bV):∃ w b,LV t bV w0=some w/\Mq t bV b0=some b/\wq bV.length w b:=by
 obtain ⟨w,b,h1,h2,h3⟩:=OX t bV 0 w0 b0 0 inv0 (by omega) hv;rw [zca] at h3;exact ⟨w,b,h1,h2,h3⟩
theorem Qq (r:aa) (h:cW r=0) (p:r.part=0):r.call=0/\r.last=false:=by
 unfold cW at h
 repeat' split at h
 all_goals first|omega|skip
 rename_i h8 _ _;refine ⟨by omega,?_⟩;cases hl:r.last with
 | false=>rfl
 | true=>exact absurd (.inr ⟨hl,p⟩) h8
theorem VV {σ:Type} {step:σ->Option (σ ⊕ Bool)} (n:Nat) (hn:n<=100000) (I:Nat->σ->Prop) (P:Nat->Prop) (Q:Prop)
  (h:∀ k s,k<n->I k s->(P k/\∃ s',step s=some (.inl s')/\I (k+1) s')∨(¬P k/\step s=some (.inr false)))
  (he:∀ s,I n s->∃ b,step s=some (.inr b)/\(b=true↔Q)) {s:σ} (hs:I 0 s):∃ b,loop step s=some b/\(b=true↔(∀ k,k<n->P k)/\Q):=by
 have key:∀ (m:Nat) (k:Nat) (s:σ),n-k<=m->k<=n->I k s->(∀ j,j<k->P j)->∀ f,m+1<=f->∃ b,iter step f s=some b/\(b=true↔(∀ k,k<n->P k)/\Q):=by
  intro m
  induction m with
  | zero =>
   intro k s hk hkn hI hP f hf;have:k=n:=by omega
   subst this;obtain ⟨b,h1,h2⟩:=he s hI;obtain ⟨f,rfl⟩:∃ g,f=g+1:=⟨f-1,by omega⟩;exact ⟨b,sD h1,h2.trans ⟨λq=>⟨hP,q⟩,λq=>q.2⟩⟩
  | succ m ih =>
   intro k s hk hkn hI hP f hf;obtain ⟨f,rfl⟩:∃ g,f=g+1:=⟨f-1,by omega⟩;by_cases e:k=n
   ·subst e;obtain ⟨b,h1,h2⟩:=he s hI;exact ⟨b,sD h1,h2.trans ⟨λq=>⟨hP,q⟩,λq=>q.2⟩⟩
   ·rcases h k s (by omega) hI with ⟨p,s',h1,h2⟩|⟨p,h1⟩
    ·obtain ⟨b,q1,q2⟩:=ih (k+1) s' (by omega) (by omega) h2 (λj hj=>by
      by_cases ej:j=k
      ·rw [ej];exact p
      ·exact hP j (by omega)) f (by omega)
     exact ⟨b,by rw [B7 h1];exact q1,q2⟩
    ·exact ⟨false,sD h1,by simp;intro q;exact absurd (q k (by omega)) p⟩
 have:=key n 0 s (by omega) (by omega) hs (λj hj=>by omega) 18446744073709551616 (by omega);exact this
theorem scan {step:Int->Option (Int ⊕ Bool)} (n:Nat) (hn:n<=100000) (P:Nat->Prop) (Q:Prop)
  (h:∀ k:Nat,k<n->(P k/\step (k:Int)=some (.inl ((k:Int)+1)))∨(¬P k/\step (k:Int)=some (.inr false)))
  (he:∃ b,step (n:Int)=some (.inr b)/\(b=true↔Q)):∃ b,loop step 0=some b/\(b=true↔(∀ k,k<n->P k)/\Q):=by
 refine VV n hn (λk s=>s=(k:Int)) P Q ?_ ?_ (s:=0) rfl
 ·rintro k s hk rfl;rcases h k hk with ⟨p,e⟩|⟨p,e⟩
  ·exact .inl ⟨p,_,e,by omega⟩
  ·exact .inr ⟨p,e⟩
 ·rintro s rfl;exact he
theorem rU {α:Type} [Inhabited α] {l:List α} {P:α->Prop}:(∀ k,k<l.length->P (nth l k))↔∀ x,x∈l->P x:=by
 constructor
 ·intro h x hx;obtain ⟨k,hk,e⟩:=List.getElem_of_mem hx;have:=h k hk
  rwa [l8 hk,e] at this
 ·intro h k hk;exact h _ (jO hk)
theorem Cd {α:Type} [Inhabited α] {l:List α} {R:α->α->Prop}:(∀ k,k<l.length->∀ j,j<k->R (nth l j) (nth l k))↔l.Pairwise R:=by
 rw [List.pairwise_iff_getElem];constructor
 ·intro h i j hi hj N0;have:=h j hj i N0
  rwa [l8 hi,l8 hj] at this
 ·intro h k hk j hj;have:=h j k (by omega) hk hj
  rwa [l8 hk,l8 (by omega)]
def ov:List Range->Int
 | []=>0
 | r::l=>(r.ia-r.from_+1)+ov l
def vB:List Head->Int
 | []=>0
 | h::l=>h.count+vB l
theorem EM:∀ {l:List Range},(∀ r,r∈l->oE r)->0<=ov l/\ov l<=l.length*1000000000
 | [],_=>by simp [ov]
 | r::l,h=>by
  have h1:=h r (zah ..);have h2:=EM λx hx=>h x (zag _ hx)
  unfold oE at h1;rw [ov,zai];omega
theorem O1:∀ {l:List Head},(∀ r,r∈l->xR r)->0<=vB l/\vB l<=l.length*5000
 | [],_=>by simp [vB]
 | r::l,h=>by
  have h1:=h r (zah ..);have h2:=O1 λx hx=>h x (zag _ hx)
  unfold xR at h1;rw [vB,zai];omega
theorem UZ (l:List Range) (h:∀ r,r∈l->oE r) (hl:l.length<=10000):o5 l=some (ov l):=by
 unfold o5;have:=bj (step:=λs:Int×Int=>lz l s.1 s.2) l (λs=>s.2) (λs t=>some (s.1+ov t)) (λs t=>(0<=s.1/\s.1+t.length*1000000000<=10000*1000000000)/\∀ r,r∈t->oE r) (by omega) ?_ ?_ (s:=(0,0)) rfl ⟨by simp only;omega,h⟩
 ·rw [this];simp
 ·rintro ⟨n,i⟩ ⟨h1,_⟩ h2;simp only at h1 h2;refine ⟨n,?_,by simp [ov]⟩;unfold lz;rw [zab (by simp only [zaj];omega)]
 ·rintro ⟨n,i⟩ r t ⟨h1,h2⟩ h3 h4 h5 h6;simp only at h1 h3 h4 h5 h6;have hr:=h2 r (zah ..);rw [zai] at h1;unfold oE at hr;unfold lz;rw [zaa (by simpa using h4),af ⟨h3,h4⟩,h5,af ⟨by omega,by omega⟩,af ⟨by omega,by omega⟩,af ⟨by omega,by omega⟩,af ⟨by omega,by omega⟩];refine .inr ⟨(n+(r.ia-r.from_+1),i+1),rfl,⟨by simp only;omega,λx hx=>h2 x (zag _ hx)⟩,rfl,?_⟩
  simp only [ov];rw [Int.add_assoc]
theorem Tj (l:List Range) (h:∀ r,r∈l->oE r) (hl:l.length<=10000):sg l=some (ov l):=by
 unfold sg;have:=bj (step:=λs:Int×Int=>nK l s.1 s.2) l (λs=>s.2) (λs t=>some (s.1+ov t)) (λs t=>(0<=s.1/\s.1+t.length*1000000000<=10000*1000000000)/\∀ r,r∈t->oE r) (by omega) ?_ ?_ (s:=(0,0)) rfl ⟨by simp only;omega,h⟩
 ·rw [this];simp
 ·rintro ⟨n,i⟩ ⟨h1,_⟩ h2;simp only at h1 h2;refine ⟨n,?_,by simp [ov]⟩;unfold nK;rw [zab (by simp only [zaj];omega)]
 ·rintro ⟨n,i⟩ r t ⟨h1,h2⟩ h3 h4 h5 h6;simp only at h1 h3 h4 h5 h6;have hr:=h2 r (zah ..);rw [zai] at h1;unfold oE at hr;unfold nK;rw [zaa (by simpa using h4),af ⟨h3,h4⟩,h5,af ⟨by omega,by omega⟩,af ⟨h3,h4⟩,af ⟨by omega,by omega⟩,af ⟨by omega,by omega⟩,af ⟨by omega,by omega⟩];refine .inr ⟨(n+r.ia-r.from_+1,i+1),rfl,⟨by simp only;omega,λx hx=>h2 x (zag _ hx)⟩,rfl,?_⟩
  simp only [ov];congr 1;omega
def jQ (m:ag):bw:=⟨vB m.aw.aK,(m.usages.length:Int),((ov m.aw.seen-(m.usages.length:Int)) - (m.aB.length:Int)) - (m.aw.open_.length:Int),(m.ba.length:Int),(m.aB.length:Int),(m.aw.open_.length:Int)⟩
structure YA (m:ag):Prop where
 seen:∀ r,r∈m.aw.seen->oE r
 aK:∀ h,h∈m.aw.aK->xR h
 l1:m.aw.seen.length<=10000
 l2:m.aw.aK.length<=10000
 l3:m.aw.open_.length<=10000
 l4:m.usages.length<=10000
 l5:m.aB.length<=10000
 l6:m.ba.length<=10000
theorem tD (m:ag) (h:YA m):cO m=some (jQ m):=by
 have b1:=EM h.seen;have:=h.l1;have:=h.l2;have:=h.l3;have:=h.l4;have:=h.l5;unfold cO;have:=bj (step:=λs:Int×Int=>gn m s.1 s.2) m.aw.aK (λs=>s.1) (λs t=>some (⟨s.2+vB t,(m.usages.length:Int),((ov m.aw.seen-(m.usages.length:Int)) - (m.aB.length:Int)) - (m.aw.open_.length:Int),(m.ba.length:Int),(m.aB.length:Int),(m.aw.open_.length:Int)⟩:bw))
  (λs t=>(0<=s.2/\s.2+t.length*5000<=10000*5000)/\∀ r,r∈t->xR r) (by omega) ?_ ?_ (s:=(0,0)) rfl ⟨by simp only;omega,h.aK⟩
 ·rw [this];simp [jQ]
 ·rintro ⟨i,n⟩ ⟨h1,_⟩ h2;simp only at h1 h2;refine ⟨_,?_,rfl⟩;unfold gn;rw [zab (by simp only [zaj];omega)];unfold gl;rw [UZ _ h.seen h.l1,zac,af ⟨by omega,by omega⟩,af ⟨by omega,by omega⟩,af ⟨by omega,by omega⟩];simp [vB]
 ·rintro ⟨i,n⟩ r t ⟨h1,h2⟩ h3 h4 h5 h6;simp only at h1 h3 h4 h5 h6;have hr:=h2 r (zah ..);rw [zai] at h1;unfold xR at hr;unfold gn;rw [zaa (by simpa using h4),af ⟨h3,h4⟩,h5,af ⟨by omega,by omega⟩,af ⟨by omega,by omega⟩];refine .inr ⟨(i+1,n+r.count),rfl,⟨by simp only;omega,λx hx=>h2 x (zag _ hx)⟩,rfl,?_⟩
  simp only [vB];rw [Int.add_assoc]
theorem Gs (m:ag) (h:YA m):mG m=some (jQ m):=by
 have b1:=EM h.seen;have:=h.l1;have:=h.l2;have:=h.l3;have:=h.l4;have:=h.l5;unfold mG;have:=bj (step:=λs:Int×Int=>lF m s.1 s.2) m.aw.aK (λs=>s.1) (λs t=>some (⟨s.2+vB t,(m.usages.length:Int),((ov m.aw.seen-(m.usages.length:Int)) - (m.aB.length:Int)) - (m.aw.open_.length:Int),(m.ba.length:Int),(m.aB.length:Int),(m.aw.open_.length:Int)⟩:bw))
  (λs t=>(0<=s.2/\s.2+t.length*5000<=10000*5000)/\∀ r,r∈t->xR r) (by omega) ?_ ?_ (s:=(0,0)) rfl ⟨by simp only;omega,h.aK⟩
 ·rw [this];simp [jQ]
 ·rintro ⟨i,n⟩ ⟨h1,_⟩ h2;simp only at h1 h2;refine ⟨_,?_,rfl⟩;unfold lF;rw [zab (by simp only [zaj];omega)];unfold lE;rw [Tj _ h.seen h.l1,zac,af ⟨by omega,by omega⟩,af ⟨by omega,by omega⟩,af ⟨by omega,by omega⟩];simp [vB]
 ·rintro ⟨i,n⟩ r t ⟨h1,h2⟩ h3 h4 h5 h6;simp only at h1 h3 h4 h5 h6;have hr:=h2 r (zah ..);rw [zai] at h1;unfold xR at hr;unfold lF;rw [zaa (by simpa using h4),af ⟨h3,h4⟩,h5,af ⟨by omega,by omega⟩,af ⟨by omega,by omega⟩];refine .inr ⟨(i+1,n+r.count),rfl,⟨by simp only;omega,λx hx=>h2 x (zag _ hx)⟩,rfl,?_⟩
  simp only [vB];rw [Int.add_assoc]
theorem Tk {σ R:Type} {step:σ->Option (σ ⊕ R)} (n:Nat) (hn:n<=100000) (I:Nat->σ->Prop) (P:Nat->Prop) (E B:R->Prop)
  (h:∀ k s,k<n->I k s->(P k/\∃ s',step s=some (.inl s')/\I (k+1) s')∨(¬P k/\∃ r,step s=some (.inr r)/\B r))
  (he:∀ s,I n s->∃ r,step s=some (.inr r)/\E r) {s:σ} (hs:I 0 s):∃ r,loop step s=some r/\(((∀ k,k<n->P k)/\E r)∨(¬(∀ k,k<n->P k)/\B r)):=by
 have key:∀ (m:Nat) (k:Nat) (s:σ),n-k<=m->k<=n->I k s->(∀ j,j<k->P j)->∀ f,m+1<=f->∃ r,iter step f s=some r/\(((∀ k,k<n->P k)/\E r)∨(¬(∀ k,k<n->P k)/\B r)):=by
  intro m
  induction m with
  | zero =>
   intro k s hk hkn hI hP f hf;have:k=n:=by omega
   subst this;obtain ⟨b,h1,h2⟩:=he s hI;obtain ⟨f,rfl⟩:∃ g,f=g+1:=⟨f-1,by omega⟩;exact ⟨b,sD h1,.inl ⟨hP,h2⟩⟩
  | succ m ih =>
   intro k s hk hkn hI hP f hf;obtain ⟨f,rfl⟩:∃ g,f=g+1:=⟨f-1,by omega⟩;by_cases e:k=n
   ·subst e;obtain ⟨b,h1,h2⟩:=he s hI;exact ⟨b,sD h1,.inl ⟨hP,h2⟩⟩
   ·rcases h k s (by omega) hI with ⟨p,s',h1,h2⟩|⟨p,r,h1,h2⟩
    ·obtain ⟨b,q1,q2⟩:=ih (k+1) s' (by omega) (by omega) h2 (λj hj=>by
      by_cases ej:j=k
      ·rw [ej];exact p
      ·exact hP j (by omega)) f (by omega)
     exact ⟨b,by rw [B7 h1];exact q1,q2⟩
    ·exact ⟨r,sD h1,.inr ⟨λq=>p (q k (by omega)),h2⟩⟩
 have:=key n 0 s (by omega) (by omega) hs (λj hj=>by omega) 18446744073709551616 (by omega);exact this
def po (u:aE):aa:=⟨u.source,u.az,u.kind,u.a,u.b,u.start,u.cz,0,0,false,u.cF,u.bT⟩
def gR (m:ag):List aa:=m.usages.map po++m.aB++m.aw.open_
def Aj (m:ag) (k:Nat):Prop:=(nth m.usages k).id=(k:Int)+1/\(1<=(nth m.usages k).aq/\(nth m.usages k).aq<=9999)/\(1<=(nth m.usages k).sub/\(nth m.usages k).sub<=9999)
def yN (b:bw):Prop:=0<=b.merged/\b.read=b.accepted+b.merged+b.rejected+b.bn+b.open_
structure jU (m:ag):Prop where
 aw:vA m.aw
 usg:∀ k,k<m.usages.length->Aj m k
 YB:∀ r,r∈m.aB->r.part=0
 rej:∀ x,x∈m.ba->x.err=15∨x.err=13
 valid:∀ r,r∈gR m->cW r=0
 seen:∀ r,r∈gR m->(hasB m.aw.seen r.source r.az && B5 r.source r.az)=true
 uniq:(gR m).Pairwise NS
 O2:yN (jQ m)
structure xS (m:ag):Prop where
 aw:SmI m.aw
 l1:m.usages.length<=1000
 l2:m.aB.length<=1000
 l3:m.ba.length<=1000
 u:∀ u,u∈m.usages->Sm (po u)
 s:∀ r,r∈m.aB->Sm r
theorem xS.O2 {m:ag} (h:xS m) (g:vA m.aw):YA m:=⟨g.can.ok,λx hx=>C9 g.aK x hx,by have:=h.aw.seen;omega,by have:=h.aw.aK;omega,by have:=h.aw.opens;omega,by have:=h.l1;omega,by have:=h.l2;omega,by have:=h.l3;omega⟩
theorem xS.gR {m:ag} (h:xS m):∀ r,r∈gR m->Sm r:=λr hr=>by
 unfold Go.Proofs.YtimkfiaffohhkaaGreatDoor.gR at hr;rcases zbb.1 hr with hr|hr
 ·rcases zbb.1 hr with hr|hr
  ·obtain ⟨u,hu,rfl⟩:=zdb.1 hr;exact h.u u hu
  ·exact h.s r hr
 ·exact h.aw.sm r hr
theorem L8 (m:ag):(gR m).length=m.usages.length+m.aB.length+m.aw.open_.length:=by simp [gR];omega
theorem Ce {m:ag} (h:YA m):(0<=(jQ m).read/\(jQ m).read<=1000000000)/\(-100000<=(jQ m).merged/\(jQ m).merged<=10000000000000)/\(jQ m).accepted=m.usages.length/\(jQ m).rejected=m.ba.length/\(jQ m).bn=m.aB.length/\(jQ m).open_=m.aw.open_.length:=by
 have b1:=EM h.seen;have b2:=O1 h.aK;have:=h.l1;have:=h.l2;have:=h.l3;have:=h.l4;have:=h.l5;have:=h.l6;unfold jQ;simp only;refine ⟨⟨by omega,by omega⟩,⟨by omega,by omega⟩,by first|rfl|trivial,by first|rfl|trivial,by first|rfl|trivial,by first|rfl|trivial⟩
theorem L9 {m:ag} (h:YA m):∃ b,(some (jQ m)).bind (λy6=>ck ((decide (y6.merged>=0))=true->(cV (y6.accepted+y6.merged))) (ck ((decide (y6.merged>=0))=true->(cV ((y6.accepted+y6.merged)+y6.rejected))) (ck ((decide (y6.merged>=0))=true->(cV (((y6.accepted+y6.merged)+y6.rejected)+y6.bn))) (ck ((decide (y6.merged>=0))=true->(cV ((((y6.accepted+y6.merged)+y6.rejected)+y6.bn)+y6.open_))) (some ((decide (y6.merged>=0)) && (y6.read==((((y6.accepted+y6.merged)+y6.rejected)+y6.bn)+y6.open_))))))))=some b/\(b=true↔yN (jQ m)):=by
 obtain ⟨h1,h2,h3,h4,h5,h6⟩:=Ce h;have:=h.l1;have:=h.l2;have:=h.l3;have:=h.l4;have:=h.l5;have:=h.l6;rw [zac,af (λ_=>⟨by omega,by omega⟩),af (λ_=>⟨by omega,by omega⟩),af (λ_=>⟨by omega,by omega⟩),af (λ_=>⟨by omega,by omega⟩)];refine ⟨_,rfl,?_⟩;unfold yN;simp
theorem Qr (m:ag) (h:xS m):o8 m=some (gR m):=by
 have:=h.l1;have:=h.l2;have:=h.aw.opens;unfold o8;refine bj (step:=λs:List aa×Int=>lD m s.1 s.2) m.usages (λs=>s.2) (λs t=>some (s.1++t.map po++m.aB++m.aw.open_)) (λs t=>0<=s.2/\(s.1.length:Int)=s.2/\s.2<=1000) (by omega) ?_ ?_ (s:=([],0)) rfl ⟨by simp,by simp,by simp⟩
 ·rintro ⟨o,i⟩ ⟨h1,h2,h3⟩ h4;simp only at h1 h2 h3 h4;refine ⟨o++m.aB++m.aw.open_,?_,by simp⟩;unfold lD;rw [zab (by simp only [zaj];omega)];unfold lC;simp only;rw [af (by omega),af (by rw [zak];omega)];rfl
 ·rintro ⟨o,i⟩ u t ⟨h1,h2,h3⟩ h4 h5 h6 h7;simp only at h1 h2 h3 h4 h5 h6 h7;unfold lD;rw [zaa (by simpa using h5),af ⟨h4,h5⟩,h6];refine .inr ⟨(o++[po u],i+1),?_,⟨by simp only;omega,by simp only [zak,zam];omega,by simp only;omega⟩,rfl,by simp⟩;unfold tf;rw [zac,af (by simp only [zam];omega),af ⟨by omega,by omega⟩];rfl
def Ma (m:ag) (k:Nat):Prop:=cW (nth (gR m) k)=0/\(hasB m.aw.seen (nth (gR m) k).source (nth (gR m) k).az && B5 (nth (gR m) k).source (nth (gR m) k).az)=true/\∀ j,j<k->NS (nth (gR m) j) (nth (gR m) k)
theorem p_dup (l:List aa) (k:Nat) (hk:k<l.length) (hl:l.length<=10000):∃ r,loop (λs:Int=>nL l (k:Int) s) 0=some r/\(((∀ j,j<k->NS (nth l j) (nth l k))/\r=.inl ((k:Int)+1))∨(¬(∀ j,j<k->NS (nth l j) (nth l k))/\r=.inr false)):=by
 refine Tk k (by omega) (λj s=>s=(j:Int)) (λj=>NS (nth l j) (nth l k)) (λr:Int ⊕ Bool=>r=.inl ((k:Int)+1)) (λr:Int ⊕ Bool=>r=.inr false) ?_ ?_ rfl
 ·rintro j s hj rfl;unfold nL;have b1:(0:Int)<=(j:Int)/\(j:Int)<(l.length:Int):=by omega
  have b2:(0:Int)<=(k:Int)/\(k:Int)<(l.length:Int):=by omega
  rw [zaa (by simpa using hj),af b1,af b2,af (λ_=>b1),af (λ_=>b2)];simp only [zce];by_cases hn:NS (nth l j) (nth l k)
  ·refine .inl ⟨hn,(j:Int)+1,?_,by omega⟩;rw [zab (by unfold NS at hn;simpa using hn),af ⟨by omega,by omega⟩]
  ·refine .inr ⟨hn,.inr false,?_,rfl⟩;rw [zaa (by unfold NS at hn;simpa using hn)]
 ·rintro s rfl;unfold nL;rw [zab (by simp),af ⟨by omega,by omega⟩];exact ⟨_,rfl,rfl⟩
theorem O3 (m:ag) (h:xS m):∃ b,pO m=some b/\(b=true↔jU m):=by
 unfold pO;rw [p_rck m.aw h.aw,zac];by_cases YC:TK m.aw=false
 ·rw [zaa (by simpa using YC)];exact ⟨_,rfl,by simp;exact λq=>by have:=(ED _).2 q.aw;rw [YC] at this;cases this⟩
 have hg:TK m.aw=true:=by simpa using YC
 rw [zab (by simpa using hg)];have g:=(ED _).1 hg;have hb:=h.O2 g;have:=h.l1;have:=h.l2;have:=h.l3;have:=h.aw.opens;have:=h.aw.seen;have h4:∃ b,lG m=some b/\(b=true↔yN (jQ m)):=by
  unfold lG;rw [Gs m hb];exact L9 hb
 have Wq:=L8 m;have h3:∃ b,lH m=some b/\(b=true↔(∀ k,k<(gR m).length->Ma m k)/\yN (jQ m)):=by
  unfold lH;rw [Qr m h,zac];refine scan (gR m).length (by omega) (Ma m) _ ?_ ?_
  ·intro k hk;have b1:(0:Int)<=(k:Int)/\(k:Int)<((gR m).length:Int):=by omega
   unfold qw;rw [zaa (by simpa using hk),af b1];simp only [zce];rw [yH _ (h.gR _ (jO hk)),zac,af (λ_=>b1),af (λ_=>b1),SB _ _ _ (by omega),dR,zac];by_cases he:cW (nth (gR m) k)=0
   ·rw [zaa (c:=(!(cW (nth (gR m) k) != 0))=true) (by simp [he])];by_cases hh:(hasB m.aw.seen (nth (gR m) k).source (nth (gR m) k).az && B5 (nth (gR m) k).source (nth (gR m) k).az)=true
    ·rw [zab (by simp only [hh,he];simp)];obtain ⟨r,h5,⟨h6,rfl⟩|⟨h6,rfl⟩⟩:=p_dup (gR m) k hk (by omega)
     ·exact .inl ⟨⟨he,hh,h6⟩,h5⟩
     ·exact .inr ⟨λq=>h6 q.2.2,h5⟩
    ·rw [zaa (by simp only [zbx,zdk];right;exact zez.2 hh)];exact .inr ⟨λq=>hh q.2.1,rfl⟩
   ·rw [zaa (c:=(_ || _)=true) (by simp [he])];exact .inr ⟨λq=>he q.1,rfl⟩
  ·obtain ⟨b,e1,e2⟩:=h4;refine ⟨b,?_,e2⟩;unfold qw;rw [zab (by simp),e1];rfl
 have h2:∃ b,lJ m=some b/\(b=true↔(∀ k,k<m.ba.length->((nth m.ba k).err=15∨(nth m.ba k).err=13))/\(∀ k,k<(gR m).length->Ma m k)/\yN (jQ m)):=by
  unfold lJ;refine scan m.ba.length (by omega) (λk=>(nth m.ba k).err=15∨(nth m.ba k).err=13) _ ?_ ?_
  ·intro k hk;have b1:(0:Int)<=(k:Int)/\(k:Int)<(m.ba.length:Int):=by omega
   unfold lI;rw [zaa (by simpa using hk),af b1,af (λ_=>b1)];simp only [zce];by_cases he:(nth m.ba k).err=15∨(nth m.ba k).err=13
   ·rw [zab (by simp;intro q;rcases he with he|he;exact absurd he q;exact he),af ⟨by omega,by omega⟩];exact .inl ⟨he,rfl⟩
   ·rw [zaa (by simp;exact ⟨λq=>he (.inl q),λq=>he (.inr q)⟩)];exact .inr ⟨he,rfl⟩
  ·obtain ⟨b,e1,e2⟩:=h3;refine ⟨b,?_,e2⟩;unfold lI;rw [zab (by simp),e1];rfl
 have h1:∃ b,lL m=some b/\(b=true↔(∀ k,k<m.aB.length->(nth m.aB k).part=0)/\(∀ k,k<m.ba.length->((nth m.ba k).err=15∨(nth m.ba k).err=13))/\(∀ k,k<(gR m).length->Ma m k)/\yN (jQ m)):=by
  unfold lL;refine scan m.aB.length (by omega) (λk=>(nth m.aB k).part=0) _ ?_ ?_
  ·intro k hk;have b1:(0:Int)<=(k:Int)/\(k:Int)<(m.aB.length:Int):=by omega
   unfold lK;rw [zaa (by simpa using hk),af b1];simp only [zce];by_cases he:(nth m.aB k).part=0
   ·rw [zab (by simpa using he),af ⟨by omega,by omega⟩];exact .inl ⟨he,rfl⟩
   ·rw [zaa (by simpa using he)];exact .inr ⟨he,rfl⟩
  ·obtain ⟨b,e1,e2⟩:=h2;refine ⟨b,?_,e2⟩;unfold lK;rw [zab (by simp),e1];rfl
 have h0:∃ b,loop (λs=>jC m s) 0=some b/\(b=true↔(∀ k,k<m.usages.length->Aj m k)/\(∀ k,k<m.aB.length->(nth m.aB k).part=0)/\(∀ k,k<m.ba.length->((nth m.ba k).err=15∨(nth m.ba k).err=13))/\(∀ k,k<(gR m).length->Ma m k)/\yN (jQ m)):=by
  refine scan m.usages.length (by omega) (Aj m) _ ?_ ?_
  ·intro k hk;have b1:(0:Int)<=(k:Int)/\(k:Int)<(m.usages.length:Int):=by omega
   unfold jC;rw [zaa (by simpa using hk),af b1,af ⟨by omega,by omega⟩];simp only [zce];by_cases he:Aj m k
   ·rw [zab (by unfold Aj at he;simp;omega),af ⟨by omega,by omega⟩];exact .inl ⟨he,rfl⟩
   ·rw [zaa (by unfold Aj at he;simp;omega)];exact .inr ⟨he,rfl⟩
  ·obtain ⟨b,e1,e2⟩:=h1;refine ⟨b,?_,e2⟩;unfold jC;rw [zab (by simp),e1];rfl
 obtain ⟨b,e1,e2⟩:=h0;refine ⟨b,e1,e2.trans ?_⟩;rw [rU (P:=λr:aa=>r.part=0),rU (P:=λx:ai=>x.err=15∨x.err=13)];constructor
 ·rintro ⟨q1,q2,q3,q4,q5⟩;exact ⟨g,q1,q2,q3,rU.1 λk hk=>(q4 k hk).1,rU (P:=λr:aa=>(hasB m.aw.seen r.source r.az && B5 r.source r.az)=true) |>.1 λk hk=>(q4 k hk).2.1,Cd.1 λk hk=>(q4 k hk).2.2,q5⟩
 ·rintro ⟨_,q1,q2,q3,q4,q5,q6,q7⟩;exact ⟨q1,q2,q3,λk hk=>⟨rU.2 q4 k hk,rU (P:=λr:aa=>(hasB m.aw.seen r.source r.az && B5 r.source r.az)=true) |>.2 q5 k hk,Cd.2 q6 k hk⟩,q7⟩
theorem Cg:fQ=some true:=by kernel_rfl
def Mb:List (List aa)->Nat
 | []=>0
 | a::t=>a.length+Mb t
theorem Tl (ls:List (List aa)) (h1:ls.length<=1000) (h2:Mb ls<=100000):gr ls=some ls.flatten:=by
 unfold gr;have inner:∀ n:Int,0<=n->n<=1000000000->dU ls n=some ls.flatten:=λn n0 n1=>by
  unfold dU wV;rw [af ⟨n0,n1⟩,zac];have:=bj (step:=λs:List aa×Int=>fb ls s.1 s.2) ls (λs=>s.2) (λs t=>some (s.1++t.flatten)) (λs t=>s.1.length+Mb t<=100000) (by omega) ?_ ?_ (s:=([],0)) rfl (by simpa using h2)
  ·rw [this];simp
  ·rintro ⟨o,i⟩ h3 h4;simp only at h3 h4;refine ⟨o,?_,by simp⟩;unfold fb;rw [zab (by simp only [zaj];omega)]
  ·rintro ⟨o,i⟩ a t h3 h4 h5 h6 h7;simp only at h3 h4 h5 h6 h7;rw [Mb] at h3;unfold fb;simp only;rw [zaa (by simpa using h5),af ⟨h4,h5⟩,h6,af (by omega),af ⟨by omega,by omega⟩];exact .inr ⟨(o++a,i+1),rfl,by simp only [zak];omega,rfl,by simp⟩
 refine bj (step:=λs:Int×Int=>dt ls s.1 s.2) ls (λs=>s.2) (λs t=>some ls.flatten) (λs t=>0<=s.1/\s.1+(Mb t:Int)<=100000) (by omega) ?_ ?_ (s:=(0,0)) rfl (by simp only;omega)
 ·rintro ⟨n,i⟩ ⟨h3,h4⟩ h5;simp only at h3 h4 h5;refine ⟨ls.flatten,?_,rfl⟩;unfold dt;rw [zab (by simp only [zaj];omega),inner n h3 (by simp only [Mb] at h4;omega)];rfl
 ·rintro ⟨n,i⟩ a t ⟨h3,h4⟩ h5 h6 h7 h8;simp only at h3 h4 h5 h6 h7 h8;rw [Mb] at h4;unfold dt;simp only;rw [zaa (by simpa using h6),af ⟨h5,h6⟩,h7,af ⟨by omega,by omega⟩,zab (by simp;omega),af ⟨by omega,by omega⟩];exact .inr ⟨(n+(a.length:Int),i+1),rfl,⟨by simp only;omega,by simp only;omega⟩,rfl,by first|rfl|trivial⟩
def yO (m:ag):List aa:=m.aB++m.aw.open_++m.usages.map po
theorem xk (m:ag):(yO m).Perm (gR m):=by
 unfold yO gR;refine zfy.trans ?_;rw [zat]
def U0 (r:aa):aW:=⟨r.source,r.az⟩
theorem O4 (a b:aa):NS a b↔U0 a≠U0 b:=by
 unfold NS U0;simp
def Tm (m:ag) (l:List aa) (k:Nat):Prop:=(∀ j,j<k->NS (nth l j) (nth l k))/\(hasB m.aw.seen (nth l k).source (nth l k).az && B5 (nth l k).source (nth l k).az)=true
theorem YD (m:ag) (g:vA m.aw) (hs:m.aw.seen.length<=1000) (l:List aa) (hl:l.length<=10000):∃ b,ey m l=some b/\(b=true↔(∀ k,k<l.length->Tm m l k)):=by
 unfold ey;have NG:=VV (step:=λs:Int×List (aW×Bool)=>gQ m l s.1 s.2) l.length (by omega) (λk s=>s.1=(k:Int)/\∀ x,(aC s.2 x).getD false=true↔∃ j,j<k/\U0 (nth l j)=x) (Tm m l) True ?_ ?_ (s:=(0,[])) ⟨rfl,λx=>by simp [aC]⟩
 ·obtain ⟨b,h1,h2⟩:=NG;exact ⟨b,h1,by rw [h2];simp⟩
 ·rintro k ⟨i,o⟩ hk ⟨rfl,hi⟩;simp only at hi;have b1:(0:Int)<=(k:Int)/\(k:Int)<(l.length:Int):=by omega
  unfold gQ;simp only;rw [zaa (by simpa using hk),af b1];simp only [zce];rw [SG _ _ _ g.can (by omega),dR,zac];have hd:((aC o (⟨(nth l k).source,(nth l k).az⟩:aW)).getD false=true)↔∃ j,j<k/\U0 (nth l j)=U0 (nth l k):=hi (U0 (nth l k));by_cases hf:(aC o (⟨(nth l k).source,(nth l k).az⟩:aW)).getD false=true
  ·rw [zaa (by rw [hf];rfl)];refine .inr ⟨λq=>?_,rfl⟩;obtain ⟨j,hj,e⟩:=hd.1 hf;exact (O4 _ _).1 (q.1 j hj) e
  ·have hf':(aC o (⟨(nth l k).source,(nth l k).az⟩:aW)).getD false=false:=by simpa using hf
   rw [hf',zaa (c:=(!false)=true) rfl];by_cases hh:(hasB m.aw.seen (nth l k).source (nth l k).az && B5 (nth l k).source (nth l k).az)=true
   ·rw [zab (by rw [hh];simp),af ⟨by omega,by omega⟩];refine .inl ⟨⟨λj hj=>(O4 _ _).2 λe=>hf (hd.2 ⟨j,hj,e⟩),hh⟩,_,rfl,by simp only;omega,λx=>?_⟩
    simp only;rw [dW];by_cases hx:x=U0 (nth l k)
    ·rw [zaa (by rw [hx];exact zee _)];exact ⟨λ_=>⟨k,by omega,hx.symm⟩,λ_=>rfl⟩
    ·rw [zab (by simpa [U0] using hx),hi x];constructor
     ·rintro ⟨j,hj,e⟩;exact ⟨j,by omega,e⟩
     ·rintro ⟨j,hj,e⟩;by_cases ej:j=k
      ·rw [ej] at e;exact absurd e.symm hx
      ·exact ⟨j,by omega,e⟩
   ·rw [zaa (by rw [zez.2 hh];rfl)];exact .inr ⟨λq=>hh q.2,rfl⟩
 ·rintro ⟨i,o⟩ ⟨rfl,_⟩;refine ⟨true,?_,by simp⟩;unfold gQ;simp only;rw [zab (by simp)]
theorem Tn (m:ag) (h:xS m) (g:vA m.aw):∃ b,jz m=some b/\(b=true↔(∀ k,k<(yO m).length->Tm m (yO m) k)):=by
 have:=h.l1;have:=h.l2;have:=h.aw.opens;have:=h.aw.seen;unfold jz;rw [Tl _ (by simp) (by simp [Mb];omega),zac];have hlen:(yO m).length<=10000:=by rw [(xk m).length_eq,L8];omega
 obtain ⟨b,h1,h2⟩:=YD m g (by omega) (yO m) hlen;refine ⟨b,?_,h2⟩;rw [←h1];have:=bj (step:=λs:List aa×Int=>eA m s.1 s.2) m.usages (λs=>s.2) (λs t=>ey m (s.1++t.map po)) (λs t=>(0<=s.2/\s.2<=1000/\(s.1.length:Int)<=2000+s.2)/\s.1++t.map po=yO m) (by omega) ?_ ?_ (s:=([m.aB,m.aw.open_].flatten,0)) rfl ⟨⟨by simp,by simp,by simp;omega⟩,by simp [yO]⟩
 ·rw [this];simp [yO]
 ·rintro ⟨o,i⟩ ⟨⟨h3,h4,h5⟩,h6⟩ h7;simp only at h3 h4 h5 h6 h7;rw [h6];refine ⟨b,?_,h1⟩;unfold eA;rw [zab (by simp only [zaj];omega),show o=yO m from by simpa using h6,h1];rfl
 ·rintro ⟨o,i⟩ u t ⟨⟨h3,h4,h5⟩,h6⟩ h7 h8 h9 Ni;simp only at h3 h4 h5 h6 h7 h8 h9 Ni;unfold eA gV;simp only;rw [zaa (by simpa using h8),af ⟨h7,h8⟩,h9,zac,af (by simp only [zam];omega),af ⟨by omega,by omega⟩];refine .inr ⟨(o++[po u],i+1),rfl,⟨⟨by simp only;omega,by simp only;omega,by simp only [zak,zam];omega⟩,by simpa using h6⟩,rfl,by simp⟩
theorem YE (m:ag) (h:xS m):∃ b,jy m.usages=some b/\(b=true↔(∀ k,k<m.usages.length->Aj m k/\cW (po (nth m.usages k))=0)):=by
 have:=h.l1;unfold jy;have NG:=scan (step:=λs:Int=>gO m.usages s) m.usages.length (by omega) (λk=>Aj m k/\cW (po (nth m.usages k))=0) True ?_ ?_
 ·obtain ⟨b,h1,h2⟩:=NG;exact ⟨b,h1,by rw [h2];simp⟩
 ·intro k hk;have b1:(0:Int)<=(k:Int)/\(k:Int)<(m.usages.length:Int):=by omega
  unfold gO gV;rw [zaa (by simpa using hk),af b1,af ⟨by omega,by omega⟩];simp only [zce];have hc:∀ c:Bool,c=((((nth m.usages k).id != ((k:Int)+1)) || (decide ((if (nth m.usages k).sub<(nth m.usages k).aq then (nth m.usages k).sub else (nth m.usages k).aq)<1))) || (decide ((if (nth m.usages k).sub > (nth m.usages k).aq then (nth m.usages k).sub else (nth m.usages k).aq) > 9999)))->(c=false↔Aj m k):=by
   rintro c rfl;unfold Aj;simp only [zge,bne_eq_false_iff_eq,zcy];constructor
   ·rintro ⟨⟨q1,q2⟩,q3⟩;split at q2 <;> split at q3 <;> exact ⟨q1,by omega,by omega⟩
   ·rintro ⟨q1,q2,q3⟩;refine ⟨⟨q1,?_⟩,?_⟩
    ·split <;> omega
    ·split <;> omega
  generalize A2:((((nth m.usages k).id != ((k:Int)+1)) || (decide ((if ((nth m.usages k).sub)<((nth m.usages k).aq) then ((nth m.usages k).sub) else ((nth m.usages k).aq))<1))) || (decide ((if ((nth m.usages k).sub) > ((nth m.usages k).aq) then ((nth m.usages k).sub) else ((nth m.usages k).aq)) > 9999)))=c;have hc:=hc c A2.symm;cases c with
  | true =>
   simp only [zbu,bH,zbs,zac,zdv,zbt,zay];exact .inr ⟨λq=>absurd (hc.2 q.1) (by simp),by first|rfl|trivial⟩
  | false =>
   have hu:=hc.1 rfl;simp only [zcb,bH,zbt,zac,zcw];have hm:=h.u (nth m.usages k) (jO hk);rw [show (⟨(nth m.usages k).source,(nth m.usages k).az,(nth m.usages k).kind,(nth m.usages k).a,(nth m.usages k).b,(nth m.usages k).start,(nth m.usages k).cz,0,0,false,(nth m.usages k).cF,(nth m.usages k).bT⟩:aa)=po (nth m.usages k) from rfl,zl _ hm,zac];by_cases he:cW (po (nth m.usages k))=0
   ·rw [zab (by simpa using he),af ⟨by omega,by omega⟩];exact .inl ⟨⟨hu,he⟩,rfl⟩
   ·rw [zaa (by simpa using he)];exact .inr ⟨λq=>he q.2,rfl⟩
 ·refine ⟨true,?_,by simp⟩;unfold gO;rw [zab (by simp)]
theorem Qs (r:aa) (h:Sm r):iS r=some (!(decide (r.part=0/\cW r=0))):=by
 unfold iS;rw [zl _ h,dR,zac];generalize cW r=e;by_cases hp:r.part=0
 ·rw [zaa (by simp [hp])];by_cases he:e=0
  ·rw [zct ⟨hp,he⟩];simp [hp,he]
  ·rw [zcf λq=>he q.2];simp [he]
 ·rw [zcf λq=>hp q.1];simp [hp]
theorem YF (m:ag) (h:xS m):∃ b,mv m.aB=some b/\(b=false↔(∀ k,k<m.aB.length->(nth m.aB k).part=0/\cW (nth m.aB k)=0)):=by
 have:=h.l2;unfold mv pA;have NG:=Tk (step:=λs:Int=>jA m.aB s) m.aB.length (by omega) (λk s=>s=(k:Int)) (λk=>(nth m.aB k).part=0/\cW (nth m.aB k)=0) (λr:Int=>r=-1) (λr:Int=>0<=r) ?_ ?_ (s:=0) rfl
 ·obtain ⟨r,h1,h2⟩:=NG;rw [h1,zac];refine ⟨_,rfl,?_⟩;rw [zcy];rcases h2 with ⟨q1,rfl⟩|⟨q1,q2⟩
  ·exact ⟨λ_=>q1,λ_=>by omega⟩
  ·exact ⟨λq=>absurd q2 q,λq=>absurd q q1⟩
 ·rintro k s hk rfl;have b1:(0:Int)<=(k:Int)/\(k:Int)<(m.aB.length:Int):=by omega
  unfold jA;rw [zaa (by simpa using hk),af b1];simp only [zce];rw [Qs _ (h.s _ (jO hk)),zac];by_cases hp:(nth m.aB k).part=0/\cW (nth m.aB k)=0
  ·rw [zab (by rw [zct hp];simp),af ⟨by omega,by omega⟩];exact .inl ⟨hp,_,rfl,by omega⟩
  ·rw [zaa (by rw [zcf hp];rfl)];exact .inr ⟨hp,_,rfl,by omega⟩
 ·rintro s rfl;unfold jA;rw [zab (by simp)];exact ⟨_,rfl,rfl⟩
theorem YG (m:ag) (h:xS m):∃ b,ef m.ba=some b/\(b=false↔(∀ k,k<m.ba.length->(nth m.ba k).err=15∨(nth m.ba k).err=13)):=by
 have:=h.l3;unfold ef gK;have NG:=Tk (step:=λs:Int=>ed m.ba s) m.ba.length (by omega) (λk s=>s=(k:Int)) (λk=>(nth m.ba k).err=15∨(nth m.ba k).err=13) (λr:Int=>r=-1) (λr:Int=>0<=r) ?_ ?_ (s:=0) rfl
 ·obtain ⟨r,h1,h2⟩:=NG;rw [h1,zac];refine ⟨_,rfl,?_⟩;rw [zcy];rcases h2 with ⟨q1,rfl⟩|⟨q1,q2⟩
  ·exact ⟨λ_=>q1,λ_=>by omega⟩
  ·exact ⟨λq=>absurd q2 q,λq=>absurd q q1⟩
 ·rintro k s hk rfl;have b1:(0:Int)<=(k:Int)/\(k:Int)<(m.ba.length:Int):=by omega
  unfold ed kS;rw [zaa (by simpa using hk),af b1];simp only [zce,zac];by_cases he:(nth m.ba k).err=15∨(nth m.ba k).err=13
  ·rw [zab (by simp;intro q;rcases he with he|he;exact absurd he q;exact he),af ⟨by omega,by omega⟩];exact .inl ⟨he,_,rfl,by omega⟩
  ·rw [zaa (by simp;exact ⟨λq=>he (.inl q),λq=>he (.inr q)⟩)];exact .inr ⟨he,_,rfl,by omega⟩
 ·rintro s rfl;unfold ed;rw [zab (by simp)];exact ⟨_,rfl,rfl⟩
theorem To (m:ag) (h:xS m):∃ b,eE m=some b/\(b=true↔jU m):=by
 unfold eE;rw [p_ck m.aw h.aw,zac];by_cases YC:TK m.aw=false
 ·rw [YC];simp only [bH,zcb,zbu,zay,zbs,zbt,zac,zdv];exact ⟨_,rfl,by simp;exact λq=>by have:=(ED _).2 q.aw;rw [YC] at this;cases this⟩
 have hg:TK m.aw=true:=by simpa using YC
 have g:=(ED _).1 hg;have hb:=h.O2 g;obtain ⟨b2,e2,q2⟩:=YE m h;obtain ⟨b3,e3,q3⟩:=Tn m h g;obtain ⟨b4,e4,q4⟩:=YF m h;obtain ⟨b5,e5,q5⟩:=YG m h;obtain ⟨b6,e6,q6⟩:=L9 hb;rw [hg,e2,e3,e4,e5,tD m hb];rw [rU (P:=λx:ai=>x.err=15∨x.err=13)] at q5;have hp:∀ x,x∈yO m↔x∈gR m:=λx=>(xk m).mem_iff
 have q3':b3=true↔((gR m).Pairwise NS/\∀ r,r∈gR m->(hasB m.aw.seen r.source r.az && B5 r.source r.az)=true):=by
  rw [q3];constructor
  ·intro q;refine ⟨((xk m).pairwise_iff fun {a b}=>EG).1 (Cd.1 λk hk=>(q k hk).1),λr hr=>?_⟩;exact rU (P:=λr:aa=>(hasB m.aw.seen r.source r.az && B5 r.source r.az)=true) |>.1 (λk hk=>(q k hk).2) r ((hp r).2 hr)
  ·rintro ⟨q,q'⟩ k hk;exact ⟨Cd.2 (((xk m).pairwise_iff fun {a b}=>EG).2 q) k hk,q' _ ((hp _).1 (jO hk))⟩
 have hsus:(∀ k,k<m.aB.length->(nth m.aB k).part=0/\cW (nth m.aB k)=0)↔∀ r,r∈m.aB->r.part=0/\cW r=0:=rU (P:=λr:aa=>r.part=0/\cW r=0);rw [hsus] at q4;have fin:(b2=true/\b3=true/\b4=false/\b5=false/\b6=true)↔jU m:=by
  rw [q2,q3',q4,q5,q6];constructor
  ·rintro ⟨p1,⟨p2,p3⟩,p4,p5,p6⟩;refine ⟨g,λk hk=>(p1 k hk).1,λr hr=>(p4 r hr).1,p5,λr hr=>?_,p3,p2,p6⟩;unfold gR at hr;rcases zbb.1 hr with hr|hr
   ·rcases zbb.1 hr with hr|hr
    ·obtain ⟨u,hu,rfl⟩:=zdb.1 hr;exact rU (P:=λu:aE=>cW (po u)=0) |>.1 (λk hk=>(p1 k hk).2) u hu
    ·exact (p4 r hr).2
   ·exact (g.opn.ok r hr).1
  ·intro q;refine ⟨λk hk=>⟨q.usg k hk,q.valid _ ?_⟩,⟨q.uniq,q.seen⟩,λr hr=>⟨q.YB r hr,q.valid _ ?_⟩,q.rej,q.O2⟩
   ·unfold gR;exact zck _ (zck _ (zci (jO hk)))
   ·unfold gR;exact zck _ (zeh _ hr)
 rw [←fin];simp only [zbu,zcb,bH,zbt,zac];cases b2 with
 | false=>simp
 | true =>
  cases b3 with
  | false=>simp
  | true =>
   cases b4 with
   | true=>simp
   | false =>
    cases b5 with
    | true=>simp
    | false =>
     simp only [zbu,zcb,zbt,zeb,zay,zbs,zac];refine ⟨b6,e6,by simp⟩
theorem Ih (l:List aa):∃ b,pL l=some b/\(b=true->l.length<=30/\∀ r,r∈l->Sm r):=by
 unfold pL;obtain ⟨b,h1,h2⟩:=qV (step:=λi:Int=>oe l i) (λb=>b=true->l.length<=30/\∀ r,r∈l->Sm r) (λi:Int=>0<=i/\i<=31/\i<=(l.length:Int)/\∀ r,r∈l.take i.toNat->Sm r) (λi=>(31-i).toNat) (λi hI=>by
  obtain ⟨h0,h1,h2,h3⟩:=hI;show (∃ r,oe l i=_/\_)∨∃ s',oe l i=_/\_;unfold oe;by_cases h:i<(l.length:Int)/\i<31
  ·rw [zaa (by simp [h]),af (by omega),af (by omega)];by_cases hs:Sm (nth l i.toNat)
   ·have tv:=hs;unfold Sm at tv;rw [zab (by simp;omega),af (by omega)];refine .inr ⟨i+1,rfl,⟨by omega,by omega,by omega,?_⟩,by omega⟩;rw [show (i+1).toNat=i.toNat+1 from by omega,mi (by omega)];intro r hr;rcases zbb.1 hr with hr|hr
    ·exact h3 r hr
    ·simp at hr;subst hr;exact hs
   ·have tv:=hs;unfold Sm at tv;rw [zaa (by simp;omega)];exact .inl ⟨_,rfl,by simp⟩
  ·rw [zab (by simp;omega)];unfold qc;refine .inl ⟨_,rfl,λhb=>?_⟩;simp at hb;have:i=l.length:=by omega
   refine ⟨by omega,λr hr=>h3 r ?_⟩;rw [zbw (by omega)];exact hr) (s:=0) ⟨by omega,by omega,by omega,by simp⟩ (by omega)
 exact ⟨b,h1,h2⟩
structure xl (m:ag):Prop where
 sm:xS m
 u:m.usages.length<=30
 s:m.aB.length<=30
 o:m.aw.open_.length<=30
 r:m.ba.length<=30
 e:m.aw.seen.length<=30
 h:m.aw.aK.length<=30
theorem Qt (m:ag):∃ b,jm m=some b/\(b=true->(∀ u,u∈m.usages->Sm (po u))->xl m):=by
 unfold jm;obtain ⟨b1,h1,h2⟩:=Ih m.aB;obtain ⟨b2,h3,h4⟩:=Ih m.aw.open_;rw [h1,h3,dR,zac,dR,zac];refine ⟨_,rfl,λhb hu=>?_⟩;simp only [zaq,zaj] at hb;obtain ⟨⟨⟨⟨⟨q1,q2⟩,q3⟩,q4⟩,q5⟩,q6⟩:=hb;rw [zaa (by simpa using q1)] at q2;rw [zaa (by rw [zaa (by simpa using q1)];simp [q2];omega)] at q3;obtain ⟨s1,s2⟩:=h2 q2;obtain ⟨s3,s4⟩:=h4 q3;exact ⟨⟨⟨by omega,by omega,by omega,s4⟩,by omega,by omega,by omega,hu,s2⟩,by omega,s1,s3,by omega,by omega,by omega⟩
theorem O5 (m:ag):∃ b,pM m=some b/\(b=true->xl m):=by
 unfold pM;obtain ⟨b,h1,h2⟩:=qV (step:=λi:Int=>lh m i) (λb=>b=true->xl m) (λi:Int=>0<=i/\i<=31/\i<=(m.usages.length:Int)/\∀ u,u∈m.usages.take i.toNat->Sm (po u)) (λi=>(31-i).toNat) (λi hI=>by
  obtain ⟨h0,h1,h2,h3⟩:=hI;show (∃ r,lh m i=_/\_)∨∃ s',lh m i=_/\_;unfold lh;by_cases h:i<(m.usages.length:Int)/\i<31
  ·rw [zaa (by simp [h]),af (by omega),af (by omega)];by_cases hs:Sm (po (nth m.usages i.toNat))
   ·have tv:=hs;unfold Sm po at tv;simp only at tv;rw [zab (by simp;omega),af (by omega)];refine .inr ⟨i+1,rfl,⟨by omega,by omega,by omega,?_⟩,by omega⟩;rw [show (i+1).toNat=i.toNat+1 from by omega,mi (by omega)];intro r hr;rcases zbb.1 hr with hr|hr
    ·exact h3 r hr
    ·simp at hr;subst hr;exact hs
   ·have tv:=hs;unfold Sm po at tv;simp only at tv;rw [zaa (by simp;omega)];exact .inl ⟨_,rfl,by simp⟩
  ·rw [zab (by simp;omega)];obtain ⟨b,e1,e2⟩:=Qt m;rw [e1];refine .inl ⟨b,rfl,λhb=>?_⟩;by_cases hi:i=m.usages.length
   ·refine e2 hb λu hu=>h3 u ?_
    rw [zbw (by omega)];exact hu
   ·exfalso;unfold jm at e1;obtain ⟨b1,h1,_⟩:=Ih m.aB;obtain ⟨b2,h3,_⟩:=Ih m.aw.open_;rw [h1,h3,dR,zac,dR,zac] at e1;rw [hb] at e1;simp at e1;omega) (s:=0) ⟨by omega,by omega,by omega,by simp⟩ (by omega)
 exact ⟨b,h1,h2⟩
theorem bw.tn (b:bw):dO b.bJ b.bJ=true:=by simp [bw.bJ,dO,Mm]
theorem Hj (m:ag):jM m=some true:=by
 unfold jM;obtain ⟨c,h1,h2⟩:=O5 m;rw [h1,Cg];simp only [zac];cases c with
 | false=>rfl
 | true =>
  have hs:=h2 rfl;obtain ⟨b,e1,q1⟩:=O3 m hs.sm;obtain ⟨b',e2,q2⟩:=To m hs.sm;have zX:b'=b:=by
   rw [zbo,q1,q2]
  subst zX;rw [e1,e2];simp only [zac,zbu,zay,zbs,zee,zcg,zgd];cases b' with
  | false=>simp [bH]
  | true =>
   have g:=q1.1 rfl;rw [tD m (hs.sm.O2 g.aw),Gs m (hs.sm.O2 g.aw)];simp [bH,bw.tn]
def ky (r:aa):Int×Int:=(r.source,r.az)
theorem O6 {l:List aa}:l.Pairwise NS↔(l.map ky).Nodup:=by
 rw [List.Nodup,List.pairwise_map];constructor
 ·intro h;exact h.imp fun {a b} q e=>q (by unfold ky at e;simpa using e)
 ·intro h;exact h.imp fun {a b} q e=>q (by unfold ky;rw [e.1,e.2])
def qL {α:Type} (a b:List α):Prop:=∃ z,(a++z).Perm b
theorem qL.refl {α:Type} (a:List α):qL a a:=⟨[],by simp⟩
theorem qL.of {α:Type} {a b:List α} (h:a.Perm b):qL a b:=⟨[],by simpa using h⟩
theorem qL.trans {α:Type} {a b c:List α}:qL a b->qL b c->qL a c:=λ⟨z,h⟩ ⟨y,k⟩=>⟨z++y,by
 rw [←zat];exact (h.append_right y).trans k⟩
theorem qL.append {α:Type} {a b c d:List α}:qL a b->qL c d->qL (a++c) (b++d):=λ⟨z,h⟩ ⟨y,k⟩=>⟨z++y,by
 refine List.Perm.trans ?_ (h.append k);rw [zat,zat];refine List.Perm.append_left a ?_;rw [←zat,←zat];exact zfy.append_right y⟩
theorem qL.nodup {α:Type} {a b:List α}:qL a b->b.Nodup->a.Nodup:=λ⟨z,h⟩ k=>(zdj.1 (h.nodup_iff.2 k)).1
theorem qL.mem {α:Type} {a b:List α} {x:α}:qL a b->x∈a->x∈b:=λ⟨z,h⟩ k=>h.mem_iff.1 (zck _ k)
theorem qL.len {α:Type} {a b:List α}:qL a b->a.length<=b.length:=λ⟨z,h⟩=>by have:=h.length_eq;rw [zak] at this;omega
def U4 (w:aa):Prop:=cW w=0/\w.part=0
theorem Tp {l:List aa} {w:aa} (h:ux l=some w):U4 w/\∃ q t,l=q::t/\ky w=ky q:=by
 cases l with
 | nil=>simp [ux] at h
 | cons q t =>
  rw [show ux (q::t)=(if ((q::t).all λp=>decide (p.part≠0/\cW p=0/\Comm p q))=true/\cW (Jw q (AV (q::t)))=0 then some (Jw q (AV (q::t))) else none) from rfl] at h;split at h
  ·rename_i hc;cases h;exact ⟨⟨hc.2,rfl⟩,q,t,rfl,rfl⟩
  ·cases h
theorem Tq {l:List aa} {w:aa} (h:jG l=some w):U4 w/\∃ q t,l=q::t/\ky w=ky q:=by
 unfold jG at h;split at h
 ·exact Tp h
 ·cases h
theorem Ii (x:aa):∀ (m:Nat) (now:List aa),(∀ w,w∈(hC m now x).1->U4 w)/\qL (((hC m now x).1++(hC m now x).2).map ky) (now.map ky)
 | 0,now=>⟨λw h=>by simp [hC] at h,.refl _⟩
 | m+1,now=>by
  unfold hC;cases hc:jG (kG true x 1 now).1 with
  | none=>exact ⟨λw h=>by simp at h,.refl _⟩
  | some w =>
   obtain ⟨FQ,ih2⟩:=Ii x m (kG true x 1 now).2;obtain ⟨hw,q,t,e1,e2⟩:=Tq hc;refine ⟨λy hy=>?_,?_⟩
   ·rcases zan.1 hy with rfl|hy
    ·exact hw
    ·exact FQ y hy
   ·have hp:=(yG true x 1 now).map ky;rw [zdd] at hp;refine qL.trans ?_ (.of hp);simp only [List.cons_append,zap];have:qL [ky w] ((kG true x 1 now).1.map ky):=by rw [e1,zap,e2];exact ⟨t.map ky,.refl _⟩
    exact this.append ih2
theorem Qu (now:List aa) (r:aa) (hr:cW r=0):(∀ w,w∈(jH now r).1->U4 w)/\qL (((jH now r).1++(jH now r).2).map ky) ((r::now).map ky):=by
 unfold jH;split
 ·rename_i h0;exact ⟨λw h=>by rw [zby.1 h];exact ⟨hr,h0⟩,.refl _⟩
 ·obtain ⟨h1,h2⟩:=Ii r (now.length+2) (pn now r);exact ⟨h1,h2.trans (.of ((wg now r).map ky))⟩
theorem De:∀ (l now:List aa),(∀ r,r∈l->cW r=0)->(∀ w,w∈(eX now l).1->U4 w)/\qL (((eX now l).1++(eX now l).2).map ky) ((now++l).map ky)
 | [],now,_=>⟨λw h=>by simp [eX] at h,by simpa [eX] using qL.refl _⟩
 | r::l,now,h=>by
  obtain ⟨a1,a2⟩:=Qu now r (h r (zah ..));obtain ⟨b1,b2⟩:=De l (jH now r).2 λz hz=>h z (zag _ hz)
  unfold eX;refine ⟨λw hw=>?_,?_⟩
  ·rcases zbb.1 hw with hw|hw
   ·exact a1 w hw
   ·exact b1 w hw
  ·simp only;rw [zat,zdd];refine ((qL.refl ((jH now r).1.map ky)).append b2).trans ?_;rw [zdd,←zat,←zdd];refine (a2.append (qL.refl (l.map ky))).trans (.of ?_);rw [←zdd];refine List.Perm.map ky ?_;rw [List.cons_append];exact zfw.symm
def uF (bV:List Event) (r:aa) (id:Int):aE×Int:=Dc (jI ((LV r.start bV w0).getD w0)) r id
theorem YH (bV:List Event) (r:aa) (id:Int) (hl:bV.length<=5000) (hs:Sm r):gj bV r id=some (uF bV r id):=by
 obtain ⟨w,h1,h2⟩:=Ta bV r id hl hs;unfold uF;rw [h1];exact h2
theorem p_ruF (bV:List Event) (r:aa) (id:Int) (hl:bV.length<=40) (hv:VC b0 0 bV) (hs:Sm r):pQ bV r id=some (uF bV r id):=by
 obtain ⟨w,b,q1,q2,q3⟩:=O0 bV r.start hl hv;unfold uF;rw [q1];exact Ti bV r id (by omega) q2 q3 (by omega) hs
def wy (bV:List Event):List aa->List aE->List aa->List aE×List aa
 | [],us,ws=>(us,ws)
 | r::l,us,ws=>if (uF bV r ((us.length:Int)+1)).2=0 then wy bV l (us++[(uF bV r ((us.length:Int)+1)).1]) ws else wy bV l us (ws++[r])
theorem p_pl (bV:List Event) (hl:bV.length<=5000) (l:List aa) (us:List aE) (ws:List aa) (hs:∀ r,r∈l->Sm r) (h1:l.length<=10000) (h2:us.length<=10000) (h3:ws.length<=10000) (a:List Range) (b:List aa) (c:List Head) (d:List ai) :
  fP l a b c bV us ws d=some (wy bV l us ws)/\eQ l a b c d bV us ws=some (wy bV l us ws)/\nS l a b c d bV us ws=some (wy bV l us ws):=by
 refine ⟨?_,?_,?_⟩
 ·unfold fP;refine bj (step:=λs:List aE×List aa×Int=>di l bV s.1 s.2.1 s.2.2) l (λs=>s.2.2) (λs t=>some (wy bV t s.1 s.2.1)) (λs t=>(s.1.length+t.length<=20000/\s.2.1.length+t.length<=20000)/\∀ r,r∈t->Sm r) (by omega) ?_ ?_ (s:=(us,ws,0)) rfl ⟨⟨by simp only;omega,by simp only;omega⟩,hs⟩
  ·rintro ⟨u,w,i⟩ _ h4;simp only at h4;refine ⟨_,?_,rfl⟩;unfold di;rw [zab (by simp only [zaj];omega)];rfl
  ·rintro ⟨u,w,i⟩ r t ⟨⟨h4,h5⟩,h6⟩ h7 h8 h9 Ni;simp only at h4 h5 h7 h8 h9 Ni;rw [zai] at h4 h5;unfold di;simp only;rw [zaa (by simpa using h8),af ⟨h7,h8⟩,af ⟨by omega,by omega⟩,h9,YH bV r _ hl (h6 r (zah ..)),zac];by_cases he:(uF bV r ((u.length:Int)+1)).2=0
   ·rw [zaa (by simpa using he),af (by simp only [zam];omega),af ⟨by omega,by omega⟩];refine .inr ⟨(u++[(uF bV r ((u.length:Int)+1)).1],w,i+1),rfl,⟨⟨by simp only [zak,zam];omega,by simp only;omega⟩,λz hz=>h6 z (zag _ hz)⟩,rfl,?_⟩;simp only;rw [wy,zaa he]
   ·rw [zab (by simpa using he),af (by simp only [zam];omega),af ⟨by omega,by omega⟩];refine .inr ⟨(u,w++[r],i+1),rfl,⟨⟨by simp only;omega,by simp only [zak,zam];omega⟩,λz hz=>h6 z (zag _ hz)⟩,rfl,?_⟩;simp only;rw [wy,zab he]
 ·unfold eQ;refine bj (step:=λs:List aE×Int×List aa=>cT l bV s.1 s.2.1 s.2.2) l (λs=>s.2.1) (λs t=>some (wy bV t s.1 s.2.2)) (λs t=>(s.1.length+t.length<=20000/\s.2.2.length+t.length<=20000)/\∀ r,r∈t->Sm r) (by omega) ?_ ?_ (s:=(us,0,ws)) rfl ⟨⟨by simp only;omega,by simp only;omega⟩,hs⟩
  ·rintro ⟨u,i,w⟩ _ h4;simp only at h4;refine ⟨_,?_,rfl⟩;unfold cT;rw [zab (by simp only [zaj];omega)];rfl
  ·rintro ⟨u,i,w⟩ r t ⟨⟨h4,h5⟩,h6⟩ h7 h8 h9 Ni;simp only at h4 h5 h7 h8 h9 Ni;rw [zai] at h4 h5;unfold cT;simp only;rw [zaa (by simpa using h8),af ⟨h7,h8⟩,af ⟨by omega,by omega⟩,h9,YH bV r _ hl (h6 r (zah ..)),zac];by_cases he:(uF bV r ((u.length:Int)+1)).2=0
   ·rw [zaa (by simpa using he),af (by simp only [zam];omega),af ⟨by omega,by omega⟩];refine .inr ⟨(u++[(uF bV r ((u.length:Int)+1)).1],i+1,w),rfl,⟨⟨by simp only [zak,zam];omega,by simp only;omega⟩,λz hz=>h6 z (zag _ hz)⟩,rfl,?_⟩;simp only;rw [wy,zaa he]
   ·rw [zab (by simpa using he),af (by simp only [zam];omega),af ⟨by omega,by omega⟩];refine .inr ⟨(u,i+1,w++[r]),rfl,⟨⟨by simp only;omega,by simp only [zak,zam];omega⟩,λz hz=>h6 z (zag _ hz)⟩,rfl,?_⟩;simp only;rw [wy,zab he]
 ·unfold nS;refine bj (step:=λs:List aE×List aa×Int=>fh l bV s.1 s.2.1 s.2.2) l (λs=>s.2.2) (λs t=>some (wy bV t s.1 s.2.1)) (λs t=>(s.1.length+t.length<=20000/\s.2.1.length+t.length<=20000)/\∀ r,r∈t->Sm r) (by omega) ?_ ?_ (s:=(us,ws,0)) rfl ⟨⟨by simp only;omega,by simp only;omega⟩,hs⟩
  ·rintro ⟨u,w,i⟩ _ h4;simp only at h4;refine ⟨_,?_,rfl⟩;unfold fh;rw [zab (by simp only [zaj];omega)];rfl
  ·rintro ⟨u,w,i⟩ r t ⟨⟨h4,h5⟩,h6⟩ h7 h8 h9 Ni;simp only at h4 h5 h7 h8 h9 Ni;rw [zai] at h4 h5;unfold fh;simp only;rw [zaa (by simpa using h8),af ⟨h7,h8⟩,af ⟨by omega,by omega⟩,h9,YH bV r _ hl (h6 r (zah ..)),zac];by_cases he:(uF bV r ((u.length:Int)+1)).2=0
   ·rw [zaa (by simpa using he),af (by simp only [zam];omega),af ⟨by omega,by omega⟩];refine .inr ⟨(u++[(uF bV r ((u.length:Int)+1)).1],w,i+1),rfl,⟨⟨by simp only [zak,zam];omega,by simp only;omega⟩,λz hz=>h6 z (zag _ hz)⟩,rfl,?_⟩;simp only;rw [wy,zaa he]
   ·rw [zab (by simpa using he),af (by simp only [zam];omega),af ⟨by omega,by omega⟩];refine .inr ⟨(u,w++[r],i+1),rfl,⟨⟨by simp only;omega,by simp only [zak,zam];omega⟩,λz hz=>h6 z (zag _ hz)⟩,rfl,?_⟩;simp only;rw [wy,zab he]
theorem Ch (bV:List Event):∀ (l:List aa) (us:List aE) (ws:List aa),(wy bV l us ws).1.length+(wy bV l us ws).2.length=us.length+ws.length+l.length
 | [],us,ws=>by simp [wy]
 | r::l,us,ws=>by
  unfold wy;split
  ·rw [Ch bV l];simp;omega
  ·rw [Ch bV l];simp;omega
theorem O7 (v:aI) (b:Batch) (w:b9) (h:QH v b):∀ r,r∈(mz v b w).2.1->U4 r:=λr hr=>by
 unfold mz at hr;split at hr
 ·rename_i hc;split at hr
  ·refine (De _ _ λx hx=>(zo hc).2.2.2.2 x (JJ hx)).1 r hr
  ·simp at hr
 ·simp at hr
structure U5 (m:ag):Prop where
 AY:vA m.aw
 seen:m.aw.seen.length<=600
 aK:m.aw.aK.length<=600
 opens:m.aw.open_.length<=600
 l1:m.usages.length<=3000
 l2:m.aB.length<=3000
 l3:m.ba.length<=3000
 s:∀ r,r∈m.aB->Sm r
theorem U5.smA {m:ag} (h:U5 m) {b:Batch} (h1:b.records.length<=100) (h2:∀ r,r∈b.records->Sm r):QH m.aw b:=⟨h.AY,h.seen,h.aK,h.opens,h1,h2⟩
def noM:ag:=⟨(⟨([]:List Range),([]:List aa),([]:List Head)⟩:aI),([]:List aE),([]:List aa),([]:List ai)⟩
def oG (bV:List Event) (m:ag) (b:Batch) (w:b9):ag×Int :=
 if (mz m.aw b w).2.2.2=0 then (⟨(mz m.aw b w).1,(wy bV (mz m.aw b w).2.1 m.usages m.aB).1,(wy bV (mz m.aw b w).2.1 m.usages m.aB).2,m.ba++(mz m.aw b w).2.2.1⟩,0) else (noM,(mz m.aw b w).2.2.2)
def xm (bV:List Event) (m:ag):ag:=⟨m.aw,(wy bV m.aB m.usages []).1,(wy bV m.aB m.usages []).2,m.ba⟩
theorem Tr (bV:List Event) (m:ag) (h:U5 m):ly bV m=some (m.aw.seen,m.aw.open_,m.aw.aK,m.usages,m.ba,bV,m.aB)/\iR bV m=some (m.aw.seen,m.aw.open_,m.aw.aK,m.usages,m.ba,bV,m.aB):=by
 have h1:=h.seen;have h2:=h.aK;have h3:=h.opens;have h4:=h.l1;have h5:=h.l3;unfold ly iR iV fj nj td oT;rw [af (by omega),af (by omega),af (by omega),af (by omega),af (by omega)];exact ⟨rfl,rfl⟩
theorem JS (bV:List Event) (hl:bV.length<=5000) (m:ag) (b:Batch) (w:b9) (h:U5 m) (h1:b.records.length<=100) (h2:∀ r,r∈b.records->Sm r):ei bV m b w=some (oG bV m b w):=by
 have hA:=h.smA h1 h2;have ha:=SV m.aw b w hA;have hw:=O7 m.aw b w hA;have k1:=h.l1;have k2:=h.l2;have k3:=h.l3;unfold ei oG;rw [SU _ _ _ hA,zac];by_cases he:(mz m.aw b w).2.2.2=0
 ·rw [zab (by simpa using he),zaa he,(Tr bV m h).1,zac];unfold fj;simp only;rw [af (by omega),zac,af (by omega),(p_pl bV hl _ _ _ (λr hr=>JA (hw r hr).1) (by omega) (by omega) (by omega) _ _ _ _).1,zac]
 ·rw [zaa (by simpa using he),zab he];rfl
theorem O8 (bV:List Event) (hl:bV.length<=5000) (m:ag) (h:U5 m):gq bV m=some (xm bV m):=by
 have k1:=h.l1;have k2:=h.l2;have k3:=h.l3;unfold gq xm;rw [(Tr bV m h).2,zac];simp only;rw [(p_pl bV hl _ _ _ h.s (by omega) (by omega) (by simp) _ _ _ _).2.1,zac]
theorem Gt (a:List aE) (hl:a.length<=10000):pG a a=some true:=by
 unfold pG;rw [zab (by simp),uv a (λ_=>true) true true (by omega) (λi h0 h1=>?_) (λi hi=>?_)]
 ·simp
 ·unfold rR;rw [zaa (by simpa using h1),af (by omega),af (by omega),zab (by rw [Tb];simp),af (by omega)];rfl
 ·unfold rR;rw [zab (by simp;omega)]
theorem Ei (a:List ai) (hl:a.length<=10000):km a a=some true:=by
 unfold km;rw [zab (by simp),uv a (λ_=>true) true true (by omega) (λi h0 h1=>?_) (λi hi=>?_)]
 ·simp
 ·unfold kj;rw [zaa (by simpa using h1),af (by omega),af (by omega),zab (by rw [ai.tn];simp),af (by omega)];rfl
 ·unfold kj;rw [zab (by simp;omega)]
theorem Ts (m:ag) (h1:m.aw.seen.length<=10000) (h2:m.aw.open_.length<=10000) (h3:m.aw.aK.length<=10000) (h4:m.usages.length<=10000) (h5:m.aB.length<=10000) (h6:m.ba.length<=10000):ue m m=some true:=by
 unfold ue;rw [SF _ h1 h2 h3,Gt _ h4,B6 _ h5,Ei _ h6];rfl
theorem NH (m:ag):∃ b,gX m=some b/\(b=true->xl m/\jU m):=by
 unfold gX;obtain ⟨c,h1,h2⟩:=O5 m;rw [h1,zac];cases c with
 | false=>exact ⟨_,rfl,by simp⟩
 | true =>
  obtain ⟨b,e1,q1⟩:=O3 m (h2 rfl).sm;rw [e1];exact ⟨b,by simp [bH],λh=>⟨h2 rfl,q1.1 h⟩⟩
theorem xl.YI {m:ag} (h:xl m) (g:jU m):U5 m:=⟨g.aw,by have:=h.e;omega,by have:=h.h;omega,by have:=h.o;omega,by have:=h.u;omega,by have:=h.s;omega,by have:=h.r;omega,h.sm.s⟩
theorem Tt (bV:List Event) (r:aa) (i j:Int):(uF bV r i).2=(uF bV r j).2:=by
 unfold uF Dc
 repeat' split
 all_goals rfl
def Qv (us:List aE):Prop:=∀ k,k<us.length->(nth us k).id=(k:Int)+1/\(1<=(nth us k).aq/\(nth us k).aq<=9999)/\(1<=(nth us k).sub/\(nth us k).sub<=9999)
theorem JT {α:Type} [Inhabited α] {a b:List α} {k:Nat} (h:k<a.length):nth (a++b) k=nth a k:=by
 rw [l8 h,l8 (by rw [zak];omega),List.getElem_append_left h]
theorem Mc {α:Type} [Inhabited α] {a:List α} {x:α}:nth (a++[x]) a.length=x:=by
 rw [l8 (by simp)];simp
theorem Qv.snoc {us:List aE} (h:Qv us) {u:aE} (h1:u.id=(us.length:Int)+1) (h2:1<=u.aq/\u.aq<=9999) (h3:1<=u.sub/\u.sub<=9999):Qv (us++[u]):=λk hk=>by
 rw [zak,zam] at hk;by_cases e:k=us.length
 ·subst e;rw [Mc];exact ⟨h1,h2,h3⟩
 ·rw [JT (by omega)];exact h k (by omega)
theorem uF_ok (bV:List Event) (hl:bV.length<=40) (hv:VC b0 0 bV) (r:aa) (id:Int) (hz:(uF bV r id).2=0) (hw:U4 r):(uF bV r id).1.id=id/\(1<=(uF bV r id).1.aq/\(uF bV r id).1.aq<=9999)/\(1<=(uF bV r id).1.sub/\(uF bV r id).1.sub<=9999)/\po (uF bV r id).1=r:=by
 obtain ⟨w,b,q1,q2,q3⟩:=O0 bV r.start hl hv;obtain ⟨e0,p0⟩:=hw;obtain ⟨c0,l0⟩:=Qq r e0 p0;unfold uF at hz ⊢;rw [q1] at hz ⊢;simp only [zcq] at hz ⊢;have own:=q3.own (zO r);unfold Dc at hz;rw [zab (show ¬(cW r≠0) from λk=>k e0),zab (show ¬(r.part≠0) from λk=>k p0)] at hz;cases hf:Eh (zO r) (jI w) with
 | none =>
  rw [hf] at own;simp only at own;rw [own] at hz;simp at hz
 | some s =>
  have hm:=List.mem_of_find?_eq_some hf;rw [hf] at own;simp only at own;rw [own] at hz;simp only [zfl,zbs] at hz;have hns:¬(s.bn=true/\r.bT=false):=λq=>by rw [zaa q] at hz;simp at hz
  have hu:Dc (jI w) r id=(⟨id,r.kind,s.aq,s.id,r.a,r.b,r.start,r.cz,r.cF,r.bT,r.source,r.az⟩,0):=by
   unfold Dc;rw [zab (show ¬(cW r≠0) from λk=>k e0),zab (show ¬(r.part≠0) from λk=>k p0),own];simp only [zfl,zbs];rw [zab hns]
  rw [hu];have hs:=(q3.yM hm).1;refine ⟨rfl,q3.acc s hs,q3.Yu _ (zci hs),?_⟩;obtain ⟨x1,x2,x3,x4,x5,x6,x7,x8,x9,x10,x11,x12⟩:=r;simp only at c0 l0 p0;subst c0;subst l0;subst p0;rfl
theorem EN (bV:List Event) (hl:bV.length<=40) (hv:VC b0 0 bV):∀ (l:List aa) (us:List aE) (ws:List aa),(∀ r,r∈l->U4 r)->Qv us ->
  Qv (wy bV l us ws).1/\((wy bV l us ws).1.map po++(wy bV l us ws).2).Perm (us.map po++ws++l)/\(∃ z,(wy bV l us ws).1=us++z)/\(∀ r,r∈(wy bV l us ws).2->r∈ws∨r∈l)
 | [],us,ws,_,hu=>⟨hu,by simp [wy],⟨[],by simp [wy]⟩,λr h=>.inl h⟩
 | r::l,us,ws,h,hu=>by
  have hr:=h r (zah ..);have ht:=λz hz=>h z (zag _ hz)
  unfold wy;by_cases he:(uF bV r ((us.length:Int)+1)).2=0
  ·rw [zaa he];obtain ⟨o1,o2,o3,o4⟩:=uF_ok bV hl hv r _ he hr;obtain ⟨i1,i2,⟨z,i3⟩,i4⟩:=EN bV hl hv l (us++[(uF bV r ((us.length:Int)+1)).1]) ws ht (hu.snoc o1 o2 o3);refine ⟨i1,i2.trans ?_,⟨(uF bV r ((us.length:Int)+1)).1::z,by rw [i3];simp⟩,λx hx=>(i4 x hx).imp id (zag _)⟩;rw [zdd,List.map_singleton,o4,zat,zat,zat];refine List.Perm.append_left _ ?_;rw [zbv];exact (zfw).symm
  ·rw [zab he];obtain ⟨i1,i2,⟨z,i3⟩,i4⟩:=EN bV hl hv l us (ws++[r]) ht hu;refine ⟨i1,i2.trans ?_,⟨z,i3⟩,λx hx=>?_⟩
   ·rw [zat,zat,zat,zbv]
   ·rcases i4 x hx with q|q
    ·rcases zbb.1 q with q|q
     ·exact .inl q
     ·rw [zby.1 q];exact .inr (zah ..)
    ·exact .inr (zag _ q)
theorem Md {s n f:Int} {l:List Range}:ov (tp s n f l)=ov l+(n-f+1):=by
 cases l with
 | nil=>simp [tp,ov]
 | cons r l =>
  rw [tp];by_cases h3:TR s n r
  ·rw [zaa h3];unfold TR at h3;simp only [ov];omega
  ·rw [zab h3];simp only [ov];omega
theorem Me {s n:Int}:∀ (l:List Range),ov (mM s n l)=ov l+1
 | []=>by simp only [mM,ov];omega
 | r::l=>by
  rw [mM];by_cases hp:PL s n r
  ·rw [zaa hp,Md];omega
  ·rw [zab hp];by_cases h1:TL s n r
   ·rw [zaa h1,Md];unfold TL at h1;simp only [ov];omega
   ·rw [zab h1];simp only [ov,Me l];omega
theorem Gu (w:b9):∀ (t:List aa) (l:List Range) (i:Int),ov (dP w l i t).1=ov l+((dP w l i t).2.1.length:Int)/\(dP w l i t).2.1.length+(dP w l i t).2.2.length=t.length/\(∀ x,x∈(dP w l i t).2.2->x.err=15∨x.err=13)
 | [],l,i=>by simp [dP]
 | r::t,l,i=>by
  by_cases hw:Hg w r
  ·by_cases hh:hasB l r.source r.az=false
   ·obtain ⟨a1,a2,a3⟩:=Gu w t (mM r.source r.az l) (i+1);simp only [dP,zaa hw,zaa hh,zai];rw [a1,Me];exact ⟨by omega,by omega,a3⟩
   ·obtain ⟨a1,a2,a3⟩:=Gu w t l (i+1);simp only [dP,zaa hw,zab hh,zai];refine ⟨a1,by omega,λx hx=>?_⟩;rcases zan.1 hx with rfl|hx
    ·exact .inr rfl
    ·exact a3 x hx
  ·obtain ⟨a1,a2,a3⟩:=Gu w t l (i+1);simp only [dP,zab hw,zai];refine ⟨a1,by omega,λx hx=>?_⟩;rcases zan.1 hx with rfl|hx
   ·exact .inl rfl
   ·exact a3 x hx
theorem Df (h:Head):∀ (l:List Head),vB (l++[h])=vB l+h.count
 | []=>by simp [vB]
 | x::l=>by
  rw [List.cons_append,vB,Df h l,vB];omega
theorem Dg (m:ag):yN (jQ m)↔((m.usages.length:Int)+m.aB.length+m.aw.open_.length<=ov m.aw.seen/\vB m.aw.aK=ov m.aw.seen+m.ba.length):=by
 unfold yN jQ;simp only;omega
theorem Mf (bV:List Event) (hl:bV.length<=40) (hv:VC b0 0 bV) (v:aI) (l:List aa) (us:List aE) (ws:List aa) (rj:List ai) (gv:vA v) (hu:Qv us) (hws:∀ r,r∈ws->r.part=0) (hw:∀ r,r∈l->U4 r) (hrj:∀ x,x∈rj->x.err=15∨x.err=13)
  (uC:∀ r,r∈us.map po++ws->cW r=0) (Du:((us.map po++ws++l++v.open_).map ky).Nodup) (Tu:∀ r,r∈us.map po++ws++l->hasB v.seen r.source r.az=true)
  (hb:(us.length:Int)+ws.length+l.length+v.open_.length<=ov v.seen/\vB v.aK=ov v.seen+rj.length):jU ⟨v,(wy bV l us ws).1,(wy bV l us ws).2,rj⟩:=by
 obtain ⟨p1,p2,p3,p4⟩:=EN bV hl hv l us ws hw hu;have hp:(gR ⟨v,(wy bV l us ws).1,(wy bV l us ws).2,rj⟩).Perm (us.map po++ws++l++v.open_):=by
  unfold gR;exact p2.append_right _
 have hlen:=Ch bV l us ws;have hvv:∀ r,r∈us.map po++ws++l++v.open_->cW r=0:=λr hr=>by
  rcases zbb.1 hr with hr|hr
  ·rcases zbb.1 hr with hr|hr
   ·exact uC r hr
   ·exact (hw r hr).1
  ·exact (gv.opn.ok r hr).1
 refine ⟨gv,p1,λr hr=>?_,hrj,λr hr=>hvv r (hp.mem_iff.1 hr),λr hr=>?_,?_,?_⟩
 ·rcases p4 r hr with q|q
  ·exact hws r q
  ·exact (hw r q).2
 ·have h1:=hp.mem_iff.1 hr;have h2:=JF (hvv r h1);rw [h2,zeu];rcases zbb.1 h1 with h1|h1
  ·exact Tu r h1
  ·exact ((EI _ _).1 gv.ids).1 r h1 |>.1
 ·rw [O6];exact ((hp.map ky).nodup_iff).2 Du
 ·rw [Dg];simp only;omega
theorem jU.old {m:ag} (g:jU m):(∀ r,r∈m.usages.map po++m.aB->cW r=0)/\(∀ r,r∈m.usages.map po++m.aB->hasB m.aw.seen r.source r.az=true):=by
 refine ⟨λr hr=>g.valid r ?_,λr hr=>?_⟩
 ·unfold gR;exact zck _ hr
 ·have:=g.seen r (by unfold gR;exact zck _ hr);simp only [zaq] at this;exact this.1
theorem Tv {l:List Range} {a b:aa} (h:ky a=ky b):hasB l a.source a.az=hasB l b.source b.az:=by
 unfold ky at h;simp only [Prod.mk.injEq] at h;rw [h.1,h.2]
section run
variable (bV:List Event) (hl:bV.length<=40) (hv:VC b0 0 bV)
include hl hv
theorem Ij {m:ag} (g:jU m) {b:Batch} {w:b9} (hA:QH m.aw b) (he:(mz m.aw b w).2.2.2=0):jU (oG bV m b w).1:=by
 unfold oG;rw [zaa he];have hc:yK b=0:=by
  unfold mz at he;split at he
  ·assumption
  ·exact absurd he (by assumption)
 have hn:b.number=jd b.source 1 m.aw.aK:=by
  unfold mz at he;rw [zaa hc] at he;split at he
  ·assumption
  ·simp at he
 have ha:mz m.aw b w=wm m.aw b w:=by unfold mz;rw [zaa hc,zaa hn]
 rw [ha];obtain ⟨k1,k2,k3,k4,k5⟩:=zo hc;obtain ⟨a1,a2,a3,a4,a5⟩:=zp w b.records m.aw.seen 0 hA.AY.can k5;obtain ⟨s1,s2,s3⟩:=Gu w b.records m.aw.seen 0;have gy:=S0 (w:=w) hA hc hn;generalize hT:dP w m.aw.seen 0 b.records=T at a1 a2 a3 a4 a5 s1 s2 s3;have hfv:∀ r,r∈T.2.1->cW r=0:=λr hr=>k5 r (JJ (by rw [hT];exact hr));obtain ⟨j1,j2⟩:=De T.2.1 m.aw.open_ hfv;have j3:=xh m.aw.open_ T.2.1;have hy:wm m.aw b w=((⟨T.1,(eX m.aw.open_ T.2.1).2,m.aw.aK++[(⟨b.source,b.number,b.format,(b.records.length:Int)⟩:Head)]⟩:aI),(eX m.aw.open_ T.2.1).1,T.2.2,0):=by
  unfold wm;rw [hT]
 rw [hy] at gy ⊢;obtain ⟨o1,o2⟩:=g.old;have hb:=(Dg m).1 g.O2;have hun:=O6.1 g.uniq;unfold gR at hun;have l7:((m.usages.map po++m.aB++(m.aw.open_++T.2.1)).map ky).Nodup:=by
  rw [←zat,zdd,zdj];refine ⟨hun,O6.1 a4,λx hx y hy e=>?_⟩;obtain ⟨r,hr,rfl⟩:=zdb.1 hx;obtain ⟨q,hq,rfl⟩:=zdb.1 hy;have h1:=g.seen r hr;have h2:=(a3 q hq).2;simp only [zaq] at h1;rw [Tv e,h2] at h1;exact absurd h1.1 (by simp)
 have UK:qL ((m.usages.map po++m.aB++(eX m.aw.open_ T.2.1).1++(eX m.aw.open_ T.2.1).2).map ky) ((m.usages.map po++m.aB++(m.aw.open_++T.2.1)).map ky):=by
  have:=(qL.refl ((m.usages.map po++m.aB).map ky)).append j2;rw [←zdd,←zdd,←zat] at this;exact this
 refine Mf bV hl hv _ _ _ _ _ gy g.usg g.YB j1 (λx hx=>?_) o1 (UK.nodup l7) (λr hr=>?_) ?_
 ·rcases zbb.1 hx with hx|hx
  ·exact g.rej x hx
  ·exact s3 x hx
 ·rcases zbb.1 hr with hr|hr
  ·exact a2 _ _ (o2 r hr)
  ·have hk:=j2.mem (zci (f:=ky) (zck _ hr));obtain ⟨q,hq,e⟩:=zdb.1 hk;rw [Tv e.symm];rcases zbb.1 hq with hq|hq
   ·exact a2 _ _ (((EI _ _).1 hA.AY.ids).1 q hq).1
   ·exact (a3 q hq).1
 ·simp only;rw [Df,zak];simp only;omega
theorem NI {m:ag} (g:jU m):jU (xm bV m):=by
 obtain ⟨o1,o2⟩:=g.old;have hb:=(Dg m).1 g.O2;have hun:=O6.1 g.uniq;unfold gR at hun;refine Mf bV hl hv _ _ _ _ _ g.aw g.usg (by simp) (λr hr=>⟨o1 r (zeh _ hr),g.YB r hr⟩) g.rej (λr hr=>o1 r (zck _ (by simpa using hr))) ?_ (λr hr=>o2 r (by simpa using hr)) ?_
 ·simpa using hun
 ·simp only [zbh];omega
end run
theorem p_sum (b:bw) (h1:0<=b.accepted/\b.accepted<=100000) (h2:-100000<=b.merged/\b.merged<=10000000000000) (h3:0<=b.rejected/\b.rejected<=100000) (h4:0<=b.bn/\b.bn<=100000) (h5:0<=b.open_/\b.open_<=100000):ru b=some (b.accepted+b.merged+b.rejected+b.bn+b.open_):=by
 unfold ru;rw [af ⟨by omega,by omega⟩,af ⟨by omega,by omega⟩,af ⟨by omega,by omega⟩,af ⟨by omega,by omega⟩]
theorem YA.sum {m:ag} (h:YA m) (g:yN (jQ m)):ru (jQ m)=some (jQ m).read:=by
 obtain ⟨h1,h2,h3,h4,h5,h6⟩:=Ce h;have:=h.l3;have:=h.l4;have:=h.l5;have:=h.l6;rw [p_sum _ (by omega) h2 (by omega) (by omega) (by omega),g.2]
theorem jU.VW {m:ag} (g:jU m):∀ r,r∈gR m->Sm r:=λr hr=>JA (g.valid r hr)
theorem jU.YJ {m:ag} (g:jU m) (h1:m.aw.seen.length<=1000) (h2:m.aw.aK.length<=1000) (h3:m.aw.open_.length<=1000) (h4:m.usages.length<=1000) (h5:m.aB.length<=1000) (h6:m.ba.length<=1000):xS m :=
 ⟨⟨h1,h2,h3,g.aw.opn.wt.sm⟩,h4,h5,h6,λu hu=>g.VW _ (by unfold gR;exact zck _ (zck _ (zci hu))),λr hr=>g.VW _ (by unfold gR;exact zck _ (zeh _ hr))⟩
theorem jU.check {m:ag} (g:jU m) (h:xS m):eE m=some true:=by
 obtain ⟨b,e,q⟩:=To m h;rw [e,q.2 g]
theorem jU.YI {m:ag} (g:jU m) (h:xS m) (h1:m.aw.seen.length<=600) (h2:m.aw.aK.length<=600) (h3:m.aw.open_.length<=600):U5 m :=
 ⟨g.aw,h1,h2,h3,by have:=h.l1;omega,by have:=h.l2;omega,by have:=h.l3;omega,h.s⟩
structure Fact (m n:ag) (k:Nat):Prop where
 us:∃ z,n.usages=m.usages++z
 len:n.usages.length+n.aB.length+n.aw.open_.length+n.ba.length<=m.usages.length+m.aB.length+m.aw.open_.length+m.ba.length+k
 read:vB n.aw.aK=vB m.aw.aK+k
 mer:(ov m.aw.seen-(m.usages.length:Int)) - m.aB.length-m.aw.open_.length<=(ov n.aw.seen-(n.usages.length:Int)) - n.aB.length-n.aw.open_.length
 seen:n.aw.seen.length<=m.aw.seen.length+k
 aK:n.aw.aK.length=m.aw.aK.length+1
theorem O9 {v:aI} {b:Batch} {w:b9} (he:(mz v b w).2.2.2=0):yK b=0/\b.number=jd b.source 1 v.aK/\mz v b w=wm v b w:=by
 have hc:yK b=0:=by
  unfold mz at he;split at he
  ·assumption
  ·exact absurd he (by assumption)
 have hn:b.number=jd b.source 1 v.aK:=by
  unfold mz at he;rw [zaa hc] at he;split at he
  ·assumption
  ·simp at he
 exact ⟨hc,hn,by unfold mz;rw [zaa hc,zaa hn]⟩
section run
variable (bV:List Event) (hl:bV.length<=40) (hv:VC b0 0 bV)
include hl hv
theorem Ik {m:ag} (g:jU m) {b:Batch} {w:b9} (hA:QH m.aw b) (he:(mz m.aw b w).2.2.2=0):Fact m (oG bV m b w).1 b.records.length:=by
 obtain ⟨hc,hn,ha⟩:=O9 he;obtain ⟨s1,s2,s3⟩:=Gu w b.records m.aw.seen 0;obtain ⟨_,_,p3,_⟩:=EN bV hl hv (mz m.aw b w).2.1 m.usages m.aB (O7 m.aw b w hA) g.usg;have hp:=Ch bV (mz m.aw b w).2.1 m.usages m.aB;have A4:=JK w m.aw.seen b.records 0;have hj:=xh m.aw.open_ (dP w m.aw.seen 0 b.records).2.1;unfold oG;rw [zaa he];rw [ha] at p3 hp ⊢;have e1:(wm m.aw b w).1.seen=(dP w m.aw.seen 0 b.records).1:=rfl;have e2:(wm m.aw b w).1.open_=(eX m.aw.open_ (dP w m.aw.seen 0 b.records).2.1).2:=rfl;have e3:(wm m.aw b w).1.aK=m.aw.aK++[(⟨b.source,b.number,b.format,(b.records.length:Int)⟩:Head)]:=rfl;have e4:(wm m.aw b w).2.1=(eX m.aw.open_ (dP w m.aw.seen 0 b.records).2.1).1:=rfl;have e5:(wm m.aw b w).2.2.1=(dP w m.aw.seen 0 b.records).2.2:=rfl;rw [e4] at p3 hp ⊢;rw [e5];refine ⟨p3,?_,?_,?_,?_,?_⟩
 ·simp only [zak];rw [e2];omega
 ·simp only;rw [e3,Df]
 ·simp only;rw [e1,e2,s1];omega
 ·simp only;rw [e1];omega
 ·simp only;rw [e3,zak];rfl
end run
theorem Hk (bV:List Event) (m:ag) (x:bY):jN bV m x=some true:=by
 unfold jN;obtain ⟨c1,h1,q1⟩:=S9 bV;obtain ⟨c2,h2,q2⟩:=NH m;obtain ⟨c3,h3,q3⟩:=Ih x.batch.records;rw [h1,h2,h3,Cg];simp only [zac,dR];cases c1 with
 | false=>rfl
 | true =>
  cases c2 with
  | false=>rfl
  | true =>
   cases c3 with
   | false=>rfl
   | true =>
    obtain ⟨hl,_,hv⟩:=q1 rfl;obtain ⟨hs,hg⟩:=q2 rfl;obtain ⟨hn,hr⟩:=q3 rfl;simp only [zbu,zcb,zbt,zeb,zay,zbs];have hm:=hs.YI hg;have hb:=hs.sm.O2 hg.aw;have hA:=hm.smA (b:=x.batch) (by omega) hr;rw [JS bV (by omega) m _ _ hm (by omega) hr,tD m hb,zac,zac,hb.sum hg.O2];by_cases he:(mz m.aw x.batch x.qZ).2.2.2=0
    ·have g':=Ij bV hl hv hg hA he;have ft:=Ik bV hl hv hg hA he;have e0:(oG bV m x.batch x.qZ).2=0:=by unfold oG;rw [zaa he]
     generalize oG bV m x.batch x.qZ=n at g' ft e0;obtain ⟨n,e⟩:=n;simp only at g' ft e0;subst e0;have a1:=hs.u;have a2:=hs.s;have a3:=hs.o;have a4:=hs.r;have a5:=hs.e;have a6:=hs.h;have f2:=ft.len;have f5:=ft.seen;have f6:=ft.aK;have s':xS n:=g'.YJ (by omega) (by omega) (by omega) (by omega) (by omega) (by omega);have jZ:=s'.O2 g'.aw;obtain ⟨r1,r2,r3,r4,r5,r6⟩:=Ce hb;simp only [zek,zay,zbs];rw [tD n jZ,zac,af ⟨by omega,by omega⟩,jZ.sum g'.O2];have er:(jQ n).read=(jQ m).read+(x.batch.records.length:Int):=ft.read;have em:¬((jQ n).merged<(jQ m).merged):=by have:=ft.mer;unfold jQ;simp only;omega
     obtain ⟨z,ez⟩:=ft.us;have eu:¬((n.usages.length:Int)<(m.usages.length:Int)):=by rw [ez,zak];omega
     rw [dR,zac];have c0:(!((jQ n).read != ((jQ m).read+(x.batch.records.length:Int))))=true:=by simp [er]
     rw [zaa c0,zab (by simp [er];omega),af ⟨by omega,by omega⟩];have et:n.usages.take ((m.usages.length:Int)).toNat=m.usages:=by rw [ez,zce,zfm]
     rw [et,Gt _ (by omega),zac,g'.check s'];simp [bH]
    ·have e0:oG bV m x.batch x.qZ=(noM,(mz m.aw x.batch x.qZ).2.2.2):=by unfold oG;rw [zab he]
     rw [e0,zaa (by simpa using he)];simp [noM,bH]
theorem Gv (bV:List Event):∀ (l:List aa) (us:List aE) (ws:List aa),(wy bV l us ws).2=ws++l.filter λr=>decide ((uF bV r 1).2≠0)
 | [],us,ws=>by simp [wy]
 | r::l,us,ws=>by
  unfold wy;rw [Tt bV r _ 1,zbk];by_cases h:(uF bV r 1).2=0
  ·rw [zaa h,zab (by simpa using h),Gv bV l]
  ·rw [zab h,zaa (by simpa using h),Gv bV l];simp
theorem Mg (bV:List Event):∀ (l:List aa) (us:List aE) (ws:List aa),(∀ r,r∈l->(uF bV r 1).2≠0)->wy bV l us ws=(us,ws++l)
 | [],us,ws,_=>by simp [wy]
 | r::l,us,ws,h=>by
  unfold wy;rw [Tt bV r _ 1,zab (h r (zah ..)),Mg bV l us _ λx hx=>h x (zag _ hx)];simp
theorem Qw (bV:List Event) (hl:bV.length<=40) (hv:VC b0 0 bV) (m:ag) (hs:xl m) (hg:jU m):eK bV m (xm bV m) (m.aB.filter λr=>decide ((uF bV r 1).2≠0))=some true:=by
 have hm:=hs.YI hg;have hb:=hs.sm.O2 hg.aw;have g':=NI bV hl hv hg;have hw:=Gv bV m.aB m.usages [];have hp:=Ch bV m.aB m.usages [];simp only [zcc,zbh] at hw hp;have a1:=hs.u;have a2:=hs.s;have a3:=hs.o;have a4:=hs.r;have a5:=hs.e;have a6:=hs.h;have e1:(xm bV m).aB=m.aB.filter λr=>decide ((uF bV r 1).2≠0):=hw
 have e2:(xm bV m).aw=m.aw:=rfl;have e3:(xm bV m).ba=m.ba:=rfl;have e4:(xm bV m).usages.length+(xm bV m).aB.length=m.usages.length+m.aB.length:=by
  have:(xm bV m).usages.length+(xm bV m).aB.length=m.usages.length+0+m.aB.length:=hp;omega
 have e5:xm bV (xm bV m)=xm bV m:=by
  have hn:=Mg bV (xm bV m).aB (xm bV m).usages [] (λr hr=>by
   rw [e1,zcr] at hr;simpa using hr.2)
  unfold xm at hn ⊢;simp only at hn ⊢;rw [hn];simp
 rw [←e1];generalize xm bV m=n at *;have s':xS n:=g'.YJ (by rw [e2];omega) (by rw [e2];omega) (by rw [e2];omega) (by omega) (by omega) (by rw [e3];omega);have jZ:=s'.O2 g'.aw;have uE:U5 n:=g'.YI s' (by rw [e2];omega) (by rw [e2];omega) (by rw [e2];omega);unfold eK;rw [tD m hb,tD n jZ,zac,zac,B6 _ (by omega),zac];obtain ⟨r1,r2,r3,r4,r5,r6⟩:=Ce hb;obtain ⟨t1,t2,t3,t4,t5,t6⟩:=Ce jZ;rw [af (λ_=>⟨by omega,by omega⟩),af (λ_=>⟨by omega,by omega⟩)];have c1:(jQ m).read=(jQ n).read:=by unfold jQ;simp only;rw [e2]
 have c2:(jQ m).rejected=(jQ n).rejected:=by unfold jQ;simp only;rw [e3]
 have c3:(jQ m).merged=(jQ n).merged:=by unfold jQ;simp only;rw [e2];omega
 have c4:(jQ m).accepted+(jQ m).bn=(jQ n).accepted+(jQ n).bn:=by rw [r3,r5,t3,t5];omega
 rw [zab (by simp [c1,c2,c3,c4]),O8 bV (by omega) n uE,e5,zac];have:=uE.l1;have:=uE.l2;have:=uE.l3;have:=uE.seen;have:=uE.aK;have:=uE.opens;rw [Ts n (by omega) (by omega) (by omega) (by omega) (by omega) (by omega),zac,g'.check s',Cg];simp [bH]
theorem JU (bV:List Event) (m:ag):kn bV m=some true:=by
 unfold kn;obtain ⟨c1,h1,q1⟩:=S9 bV;obtain ⟨c2,h2,q2⟩:=NH m;rw [h1,h2,Cg];simp only [zac,dR];cases c1 with
 | false=>rfl
 | true =>
  cases c2 with
  | false=>rfl
  | true =>
   obtain ⟨hl,_,hv⟩:=q1 rfl;obtain ⟨hs,hg⟩:=q2 rfl;simp only [zbu,zcb,zbt,zeb,zay,zbs];have hm:=hs.YI hg;have hss:=hs.s;rw [O8 bV (by omega) m hm,zac];have hj:=Qw bV hl hv m hs hg;have:=bj (step:=λs:List aa×Int=>fR bV m (xm bV m) s.1 s.2) m.aB (λs=>s.2) (λs t=>some true) (λs t=>((s.1.length:Int)<=s.2/\s.2<=30)/\(∀ r,r∈t->Sm r)/\s.1++t.filter (λr=>decide ((uF bV r 1).2≠0))=m.aB.filter λr=>decide ((uF bV r 1).2≠0)) (by omega) ?_ ?_ (s:=([],0)) rfl ⟨⟨by simp,by simp⟩,hs.sm.s,by simp⟩
   ·exact this
   ·rintro ⟨o,i⟩ ⟨i1,_,i3⟩ i4;simp only at i3 i4;refine ⟨true,?_,rfl⟩;unfold fR;simp only [List.filter_nil,zbn] at i3;rw [zab (by simp only [zaj];omega),i3,hj];rfl
   ·rintro ⟨o,i⟩ r t ⟨i1,i2,i3⟩ i4 i5 i6 i7;simp only at i1 i3 i4 i5 i6 i7;unfold fR;simp only;rw [zaa (by simpa using i5),af ⟨i4,i5⟩,i6,p_ruF bV r 1 hl hv (i2 r (zah ..)),zac];rw [zbk] at i3;by_cases hz:(uF bV r 1).2=0
    ·rw [zab (by simpa using hz)] at i3;rw [zab (by simpa using hz),af ⟨by omega,by omega⟩];exact .inr ⟨(o,i+1),rfl,⟨⟨by simp only;omega,by simp only;omega⟩,λx hx=>i2 x (zag _ hx),i3⟩,rfl,by first|rfl|trivial⟩
    ·rw [zaa (by simpa using hz)] at i3;rw [zaa (by simpa using hz),af ⟨i4,i5⟩,af (by simp only [zam];omega),af ⟨by omega,by omega⟩];exact .inr ⟨(o++[r],i+1),rfl,⟨⟨by simp only [zak,zam];omega,by simp only;omega⟩,λx hx=>i2 x (zag _ hx),by simpa using i3⟩,rfl,by first|rfl|trivial⟩
end Go.Proofs.YtimkfiaffohhkaaGreatDoor
