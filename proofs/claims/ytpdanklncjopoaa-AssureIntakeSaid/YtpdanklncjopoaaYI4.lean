/- Our own texts of this seat. -/
import Derived.Test.YtpdanklncjopoaaYI3
import Derived.Lib.Split
import Derived.Lib.Join
import Derived.Lib.ItoaNum
import Derived.Lib.ItoaLen
import Derived.Deep.Slices
import Derived.ChangeArms
import Derived.ProofKit
import Derived.Below
import Derived.ChangeSame
set_option linter.unusedSimpArgs false
set_option linter.unusedVariables false
set_option maxRecDepth 100000
set_option maxHeartbeats 4000000
namespace Go.Proofs.Ytpdanklncjopoaa
open Go.RowKit Go.Abs
theorem Eu {s n f:Int} {l:O Range} (hf:f<=n) (h:∀ r,r∈l->PL s n r/\tq r) (hh:hasB l s n=false) (s' n':Int):hasB (oT s n f l) s' n'=(hasB l s' n' || decide (s=s'/\f<=n'/\n'<=n)):=by
 cases l with
 | nil=>simp[oT,hasB]
 | cons r l =>
  have hr:=h r (List.mem_cons_self ..)
  have hn:¬(r.source=s/\r.from_<=n/\n<=r.qZ):=by
   have:=List.any_eq_false.1 hh r (List.mem_cons_self ..)
   simpa using this
  have ho:=hr.2
  have hp:=hr.1
  unfold tq at ho
  unfold PL at hp
  rw[oT]
  unfold hasB
  by_cases h3:TR s n r
  ·rw[if_pos h3]
   unfold TR at h3
   rw[List.any_cons,List.any_cons]
   generalize (l.any λr=>decide (r.source=s'/\r.from_<=n'/\n'<=r.qZ))=q
   rw[Bool.eq_iff_iff]
   simp only[Bool.or_eq_true,decide_eq_true_eq]
   constructor
   ·rintro (k|k)
    ·by_cases k2:n'<=n
     ·exact .inr (by omega)
     ·exact .inl (.inl (by omega))
    ·exact .inl (.inr k)
   ·rintro ((k|k)|k)
    ·exact .inl (by omega)
    ·exact .inr k
    ·exact .inl (by omega)
  ·rw[if_neg h3,List.any_cons,Bool.or_comm]
theorem Ev {s n:Int}:∀ {l:O Range},Can l->hasB l s n=false->∀ s' n',hasB (iR s n l) s' n'=(hasB l s' n' || decide (s=s'/\n=n'))
 | [],_,_,s',n'=>by
  simp only[iR,hasB,List.any_cons,List.any_nil,Bool.or_false,Bool.false_or]
  rw[Bool.eq_iff_iff,decide_eq_true_iff,decide_eq_true_iff];omega
 | r::l,hc,hh,s',n'=>by
  have ho:=hc.ok r (List.mem_cons_self ..)
  have hs:=List.pairwise_cons.1 hc.IQ
  have kj:=ho
  unfold tq at kj
  have e0:decide (s=s'/\n<=n'/\n'<=n)=decide (s=s'/\n=n'):=by rw[Bool.eq_iff_iff,decide_eq_true_iff,decide_eq_true_iff];omega
  by_cases hp:PL s n r
  ·rw[iR,if_pos hp,Eu (by omega) (λx hx=>⟨by
    rcases List.mem_cons.1 hx with rfl|hx
    ·exact hp
    ·exact Cs (hs.1 x hx) (hc.ok x (List.mem_cons_of_mem _ hx)) hp,hc.ok x hx⟩) hh,e0]
  ·rw[iR,if_neg hp]
   by_cases h1:TL s n r
   ·rw[if_pos h1]
    have Bx:=h1
    unfold TL at Bx
    rw[Eu (by omega) (λx hx=>⟨by
     have h3:=hs.1 x hx
     have h5:=hc.ok x (List.mem_cons_of_mem _ hx)
     unfold zU at h3;unfold tq at h5;unfold PL;omega,hc.ok x (List.mem_cons_of_mem _ hx)⟩) (qA hh)]
    unfold hasB
    rw[List.any_cons]
    generalize (l.any λr=>decide (r.source=s'/\r.from_<=n'/\n'<=r.qZ))=q
    rw[Bool.eq_iff_iff]
    simp only[Bool.or_eq_true,decide_eq_true_eq]
    constructor
    ·rintro (k|k)
     ·exact .inl (.inr k)
     ·by_cases k2:n'=n
      ·exact .inr (by omega)
      ·exact .inl (.inl (by omega))
    ·rintro ((k|k)|k)
     ·exact .inr (by omega)
     ·exact .inl k
     ·exact .inr (by omega)
   ·rw[if_neg h1]
    have ih:=Ev hc.tail (qA hh) s' n'
    unfold hasB at ih ⊢
    rw[List.any_cons,List.any_cons,ih,Bool.or_assoc]
theorem Ew {s n f:Int} {l:O Range} (k:Int):tu k (oT s n f l)=tu k l+(if s=k then n-f+1 else 0):=by
 cases l with
 | nil=>simp[oT,tu]
 | cons r l =>
  rw[oT]
  by_cases h3:TR s n r
  ·rw[if_pos h3]
   unfold TR at h3
   simp only[tu]
   by_cases hk:s=k
   ·rw[if_pos hk,if_pos (by omega),if_pos hk];omega
   ·rw[if_neg hk,if_neg (by omega),if_neg hk];omega
  ·rw[if_neg h3]
   simp only[tu];omega
theorem Ex {s n:Int} (k:Int):∀ (l:O Range),tu k (iR s n l)=tu k l+(if s=k then 1 else 0)
 | []=>by simp only[iR,tu];split<;>omega
 | r::l=>by
  rw[iR]
  by_cases hp:PL s n r
  ·rw[if_pos hp,Ew];split<;>omega
  ·rw[if_neg hp]
   by_cases h1:TL s n r
   ·rw[if_pos h1,Ew]
    unfold TL at h1
    simp only[tu]
    by_cases hk:s=k
    ·rw[if_pos hk,if_pos hk,if_pos (by omega)];omega
    ·rw[if_neg hk,if_neg hk,if_neg (by omega)];omega
   ·rw[if_neg h1]
    simp only[tu,Ex k l];omega
def NS (a b:aa):Prop:=¬(a.source=b.source/\a.aF=b.aF)
theorem HA {a b:aa} (h:NS a b):NS b a:=λk=>h ⟨k.1.symm,k.2.symm⟩
theorem HB (l:O Range):∀ (t d:O aa),RB l d t=true↔(∀ r,r∈t->hasB l r.source r.aF=true/\Fs r.source r.aF=true)/\(∀ a,a∈d->∀ r,r∈t->NS a r)/\t.Pairwise NS
 | [],d=>by simp[RB]
 | r::t,d=>by
  rw[RB,Bool.and_eq_true,Bool.and_eq_true,Bool.and_eq_true,HB l t (d++[r])]
  have e:(!(d.any λx=>Gi x r))=true↔∀ a,a∈d->NS a r:=by
   rw[Bool.not_eq_true',List.any_eq_false]
   simp only[Gi,Bool.and_eq_true,decide_eq_true_eq]
   exact Iff.rfl
  rw[e,List.pairwise_cons]
  constructor
  ·rintro ⟨⟨⟨h1,h2⟩,h3⟩,h4,h5,h6⟩
   refine ⟨λx hx=>?_,λa ha x hx=>?_,λx hx=>h5 r (by simp) x hx,h6⟩
   ·rcases List.mem_cons.1 hx with rfl|hx
    ·exact ⟨h1,h2⟩
    ·exact h4 x hx
   ·rcases List.mem_cons.1 hx with rfl|hx
    ·exact h3 a ha
    ·exact h5 a (List.mem_append_left _ ha) x hx
  ·rintro ⟨h1,h2,h3,h4⟩
   refine ⟨⟨h1 r (List.mem_cons_self ..),λa ha=>h2 a ha r (List.mem_cons_self ..)⟩,λx hx=>h1 x (List.mem_cons_of_mem _ hx),λa ha x hx=>?_,h4⟩
   rcases List.mem_append.1 ha with ha|ha
   ·exact h2 a ha x (List.mem_cons_of_mem _ hx)
   ·simp at ha;subst ha;exact h3 x hx
theorem xz (l:O Range) (t:O aa):RB l [] t=true↔(∀ r,r∈t->hasB l r.source r.aF=true/\Fs r.source r.aF=true)/\t.Pairwise NS:=by
 rw[HB];simp
theorem Lm {now:O aa} {r:aa} (h:now.Pairwise NS) (hr:∀ a,a∈now->NS a r):(ic now r).2.Pairwise NS/\∀ x,x∈(ic now r).2->x=r∨x∈now:=by
 unfold ic
 split
 ·exact ⟨h,λx hx=>.inr hx⟩
 ·have hi:(m6 now r).Pairwise NS:=((qu now r).pairwise_iff HA).2 (List.pairwise_cons.2 ⟨λa ha=>HA (hr a ha),h⟩)
  have Ny:=wi r (now.length+2) (m6 now r)
  exact ⟨hi.sublist Ny,λx hx=>qw.1 (Ny.subset hx)⟩
theorem Ey:∀ {l now:O aa},(now++l).Pairwise NS->(eL now l).2.Pairwise NS/\∀ x,x∈(eL now l).2->x∈now++l
 | [],now,h=>by
  rw[List.append_nil] at h
  exact ⟨h,λx hx=>by simpa [eL] using hx⟩
 | r::l,now,h=>by
  have h':=List.pairwise_append.1 h
  obtain ⟨k1,k2⟩:=Lm h'.1 (λa ha=>h'.2.2 a ha r (List.mem_cons_self ..))
  have hl:=List.pairwise_cons.1 h'.2.1
  have:((ic now r).2++l).Pairwise NS:=List.pairwise_append.2 ⟨k1,hl.2,λa ha b hb=>by
   rcases k2 a ha with rfl|ha
   ·exact hl.1 b hb
   ·exact h'.2.2 a ha b (List.mem_cons_of_mem _ hb)⟩
  obtain ⟨m1,m2⟩:=Ey this
  simp only[eL]
  refine ⟨m1,λx hx=>?_⟩
  rcases List.mem_append.1 (m2 x hx) with hx|hx
  ·rcases k2 x hx with rfl|hx
   ·simp
   ·simp[hx]
  ·simp[hx]
theorem vz (w:bJ):∀ (t:O aa) (l:O Range) (i:Int),Can l->(∀ r,r∈t->cr r=0)->Can (dP w l i t).1/\(∀ s n,hasB l s n=true->hasB (dP w l i t).1 s n=true)/\(∀ r,r∈(dP w l i t).2.1->hasB (dP w l i t).1 r.source r.aF=true/\hasB l r.source r.aF=false)/\(dP w l i t).2.1.Pairwise NS/\(∀ r,r∈t->CR w r->hasB (dP w l i t).1 r.source r.aF=true)
 | [],l,i,hc,_=>⟨hc,λ_ _ h=>h,by simp[dP],by simp[dP],by simp⟩
 | r::t,l,i,hc,hv=>by
  have hid:=Cx (hv r (List.mem_cons_self ..))
  have J1:∀ x,x∈t->cr x=0:=λx hx=>hv x (List.mem_cons_of_mem _ hx)
  by_cases hw:CR w r
  ·by_cases hh:hasB l r.source r.aF=false
   ·obtain ⟨a1,a2,a3,a4,a5⟩:=vz w t (iR r.source r.aF l) (i+1) (zl hid hc hh).1 J1
    have CA:=Ev hc hh
    have Ln:hasB (iR r.source r.aF l) r.source r.aF=true:=by rw[CA];simp
    simp only[dP,if_pos hw,if_pos hh]
    refine ⟨a1,λs n h=>a2 s n (by rw[CA,h,Bool.true_or]),λx hx=>?_,List.pairwise_cons.2 ⟨λx hx k=>?_,a4⟩,λx hx RD=>?_⟩
    ·rcases List.mem_cons.1 hx with rfl|hx
     ·exact ⟨a2 _ _ Ln,hh⟩
     ·have:=a3 x hx
      rw[CA,Bool.or_eq_false_iff] at this
      exact ⟨this.1,this.2.1⟩
    ·have:=(a3 x hx).2
     rw[←k.1,←k.2,Ln] at this
     cases this
    ·rcases List.mem_cons.1 hx with rfl|hx
     ·exact a2 _ _ Ln
     ·exact a5 x hx RD
   ·obtain ⟨a1,a2,a3,a4,a5⟩:=vz w t l (i+1) hc J1
    simp only[dP,if_pos hw,if_neg hh]
    refine ⟨a1,a2,a3,a4,λx hx RD=>?_⟩
    rcases List.mem_cons.1 hx with rfl|hx
    ·exact a2 _ _ (by simpa using hh)
    ·exact a5 x hx RD
  ·obtain ⟨a1,a2,a3,a4,a5⟩:=vz w t l (i+1) hc J1
   simp only[dP,if_neg hw]
   refine ⟨a1,a2,a3,a4,λx hx RD=>?_⟩
   rcases List.mem_cons.1 hx with rfl|hx
   ·exact absurd RD hw
   ·exact a5 x hx RD
theorem Ez {s:Int}:∀ {l:O aa},Cu s l=0->∀ r,r∈l->r.source=s
 | [],_,r,h=>by cases h
 | x::l,hc,r,h=>by
  rw[Cu] at hc
  by_cases he:cr x=0
  ·rw[if_pos he] at hc
   by_cases hs:x.source=s
   ·rw[if_pos hs] at hc
    rcases List.mem_cons.1 h with rfl|h
    ·exact hs
    ·exact Ez hc r h
   ·rw[if_neg hs] at hc;omega
  ·rw[if_neg he] at hc;exact absurd hc he
theorem Lo {b:Batch} (h:wj b=0):∀ r,r∈b.records->r.source=b.source:=by
 unfold wj at h
 by_cases h1:Cv b.source b.number b.format=0
 ·rw[if_pos h1] at h
  by_cases h2:4096<b.records.length
  ·rw[if_pos h2] at h;omega
  ·rw[if_neg h2] at h;exact Ez h
 ·rw[if_neg h1] at h;exact absurd h h1
theorem CB (w:bJ) (s k:Int):∀ (t:O aa) (l:O Range) (i:Int),(∀ r,r∈t->r.source=s)->tu k (dP w l i t).1=tu k l+(if s=k then ((dP w l i t).2.1.length:Int) else 0)
 | [],l,i,_=>by simp[dP]
 | r::t,l,i,h=>by
  have hr:=h r (List.mem_cons_self ..)
  have h':∀ x,x∈t->x.source=s:=λx hx=>h x (List.mem_cons_of_mem _ hx)
  by_cases hw:CR w r
  ·by_cases hh:hasB l r.source r.aF=false
   ·have ih:=CB w s k t (iR r.source r.aF l) (i+1) h'
    simp only[dP,if_pos hw,if_pos hh,List.length_cons]
    rw[ih,Ex,hr]
    by_cases hk:s=k
    ·simp only[if_pos hk];omega
    ·simp only[if_neg hk];omega
   ·simp only[dP,if_pos hw,if_neg hh];exact CB w s k t l (i+1) h'
  ·simp only[dP,if_neg hw];exact CB w s k t l (i+1) h'
theorem EA:∀ {l d:O Head} {h:Head},O6 d l=true->Gg h->h.number=pr h.source 1 (d++l)->O6 d (l++[h])=true
 | [],d,h,_,ho,hn=>by
  rw[List.append_nil] at hn
  simp only[List.nil_append,O6,Bool.and_true,decide_eq_true_eq]
  exact ⟨ho,hn⟩
 | x::l,d,h,hb,ho,hn=>by
  simp only[O6,List.cons_append,Bool.and_eq_true] at hb ⊢
  refine ⟨hb.1,EA hb.2 ho ?_⟩
  rw[hn];simp
theorem Lp {v:bE} {b:Batch} {w:bJ} (h:JC v b) (hc:wj b=0) (hn:b.number=pr b.source 1 v.aX):ux (wk v b w).1:=by
 obtain ⟨k1,k2,k3,k4,k5⟩:=xy hc
 obtain ⟨a1,a2,a3,a4,a5⟩:=vz w b.records v.seen 0 h.pI.can k5
 have Uh:∀ r,r∈(dP w v.seen 0 b.records).2.1->cr r=0:=λr hr=>k5 r (Cy hr)
 have Gl:=(xz _ _).1 h.pI.ids
 have MQ:=Cz w v.seen b.records 0
 refine ⟨EA h.pI.aX ?_ (by simpa using hn),a1,Bc h.pI.Uf Uh,?_,?_⟩
 ·unfold Gg;simp only;omega
 ·rw[xx]
  intro k _ _
  have h1:=(xx _ _ _ _).1 h.pI.zQ k (by omega) (by omega)
  show tu k (dP w v.seen 0 b.records).1<=Er k (v.aX++[_])
  rw[CB w b.source k b.records v.seen 0 (Lo hc),Bg]
  simp only
  split<;>omega
 ·rw[xz]
  have RE:(v.open_++(dP w v.seen 0 b.records).2.1).Pairwise NS:=List.pairwise_append.2 ⟨Gl.2,a4,λx hx y hy k=>by
   have h1:=(Gl.1 x hx).1
   have h2:=(a3 y hy).2
   rw[k.1,k.2,h2] at h1
   cases h1⟩
  obtain ⟨m1,m2⟩:=Ey RE
  refine ⟨λr hr=>?_,m1⟩
  rcases List.mem_append.1 (m2 r hr) with hx|hx
  ·exact ⟨a2 _ _ (Gl.1 r hx).1,(Gl.1 r hx).2⟩
  ·exact ⟨(a3 r hx).1,Cx (Uh r hx)⟩
def rW {α:Type} (lt:α->α->Bool) (x:α):List α->List α
 | []=>[x]
 | y::t=>if lt y x=true then y::rW lt x t else x::y::t
theorem xA {α:Type} (lt:α->α->Bool) (x:α):∀ (l:O α),(rW lt x l).length=l.length+1
 | []=>rfl
 | y::t=>by
  unfold rW
  split
  ·rw[List.length_cons,xA lt x t,List.length_cons]
  ·rfl
theorem xB {α:Type} (lt:α->α->Bool) (x:α):∀ (l:O α) (z:α),z∈rW lt x l↔z=x∨z∈l
 | [],z=>by simp[rW]
 | y::t,z=>by
  unfold rW
  split
  ·rw[List.mem_cons,xB lt x t z,List.mem_cons]
   constructor
   ·rintro (h|h|h)
    ·exact .inr (.inl h)
    ·exact .inl h
    ·exact .inr (.inr h)
   ·rintro (h|h|h)
    ·exact .inr (.inl h)
    ·exact .inl h
    ·exact .inr (.inr h)
  ·rw[List.mem_cons]
theorem Lq {α:Type} [Inhabited α] {step:Int->J (Int ⊕ O α)} (l:O α) (x:α) (lt:α->α->Bool) (hl:l.length<=100000)
  (h:∀ i:Int,0<=i->i<=(l.length:Int)->step i=if i<(l.length:Int)/\lt (nth l i.toNat) x=true then some (.inl (i+1)) else some (.inr ((l.take i.toNat++[x])++l.drop i.toNat))):loop step 0=some (rW lt x l):=by
 have:=bL (step:=step) l (λi:Int=>i) (λi t=>some (l.take i.toNat++rW lt x t)) (λi t=>l.drop i.toNat=t/\0<=i) (by omega) ?_ ?_ (s:=0) rfl ⟨by simp,by omega⟩
 ·rw[this];simp
 ·rintro i ⟨h1,h2⟩ h3
  refine ⟨(l.take i.toNat++[x])++l.drop i.toNat,?_,?_⟩
  ·rw[h i h2 (by omega),if_neg (by omega)]
  ·rw[h1];simp[rW]
 ·rintro i a t ⟨h1,h2⟩ h3 h4 h5 h6
  by_cases cd:lt a x=true
  ·refine .inr ⟨i+1,?_,⟨?_,by omega⟩,rfl,?_⟩
   ·rw[h i h2 (by omega),if_pos ⟨h4,by rw[h5];exact cd⟩]
   ·rw[show (i+1).toNat=i.toNat+1 from by omega,←List.drop_drop,h1];rfl
   ·rw[show (i+1).toNat=i.toNat+1 from by omega,ya (by omega),h5]
    simp[rW,cd]
  ·refine .inl ⟨(l.take i.toNat++[x])++l.drop i.toNat,?_,?_⟩
   ·rw[h i h2 (by omega),if_neg (by rw[h5];exact λk=>cd k.2)]
   ·rw[h1];simp[rW,cd]
def Lr (a b:Int):Bool:=decide (a<b)
theorem Ls (l:O (O uA)) (x:O uA) (hl:l.length<=100000):lQ l x=some (rW ou x l):=by
 unfold lQ
 refine Lq l x ou hl λi h0 h1=>?_
 unfold pE
 rw[ae (λk=>⟨h0,by simpa using k⟩)]
 have hj:gS l x i=some ((l.take i.toNat++[x])++l.drop i.toNat):=by
  unfold gS
  have e1:(l.take i.toNat).length<=l.length:=List.length_take_le' ..
  have e2:(l.drop i.toNat).length<=l.length:=by rw[List.length_drop];omega
  simp only[List.nil_append,List.length_nil,Nat.zero_add]
  rw[ae ⟨h0,h1⟩,ae (by omega),ae (by rw[List.length_singleton];omega),ae ⟨h0,h1⟩,ae (by rw[List.length_append,List.length_singleton];omega)]
 rw[hj]
 by_cases hc:i<(l.length:Int)/\ou (nth l i.toNat) x=true
 ·rw[if_pos hc,if_pos (by simp only[Bool.and_eq_true,decide_eq_true_eq];exact hc),ae ⟨by omega,by omega⟩]
 ·rw[if_neg hc,if_neg (λk=>hc (by simpa only [Bool.and_eq_true,decide_eq_true_eq] using k))];rfl
def CC (x:O uA) (l:O (O uA)):O (O uA):=l.filter (· != x)
theorem Lu {step:O (O uA)×Int->J ((O (O uA)×Int) ⊕ O (O uA))} (l:O (O uA)) (x:O uA) (hl:l.length<=100000)
  (h:∀ (o:O (O uA)) (i:Int),0<=i->i<=(l.length:Int)->(o.length:Int)<=i->step (o,i)=if i<(l.length:Int) then some (.inl (if (nth l i.toNat != x)=true then o++[nth l i.toNat] else o,i+1)) else some (.inr o)):loop step ([],0)=some (CC x l):=by
 have:=bL (step:=step) l (λs=>s.2) (λs t=>some (s.1++CC x t)) (λs t=>0<=s.2/\s.2<=(l.length:Int)/\(s.1.length:Int)<=s.2) (by omega) ?_ ?_ (s:=([],0)) rfl ⟨by simp,by simp,by simp⟩
 ·rw[this];simp
 ·rintro ⟨o,i⟩ ⟨h1,h2,h3⟩ h4
  refine ⟨o,?_,?_⟩
  ·rw[h o i h1 h2 h3,if_neg (by simp only at h4;omega)]
  ·simp[CC]
 ·rintro ⟨o,i⟩ a t ⟨h1,h2,h3⟩ h4 h5 h6 h7
  simp only at h1 h2 h3 h4 h5 h6 h7
  refine .inr ⟨(if (nth l i.toNat != x)=true then o++[nth l i.toNat] else o,i+1),?_,⟨by simp only;omega,by simp only;omega,?_⟩,rfl,?_⟩
  ·rw[h o i h1 h2 h3,if_pos h5]
  ·simp only
   split
   ·rw[List.length_append,List.length_singleton];omega
   ·omega
  ·simp only
   rw[h6]
   unfold CC
   rw[List.filter_cons]
   split<;>simp
theorem Bh (l:O (O uA)) (x:O uA) (hl:l.length<=100000):gT l x=some (CC x l):=by
 unfold gT
 refine Lu l x hl λo i h0 h1 h2=>?_
 unfold lR
 by_cases hi:i<(l.length:Int)
 ·rw[if_pos (by simpa using hi),if_pos hi,ae ⟨h0,hi⟩]
  split
  ·rw[ae ⟨h0,hi⟩,ae (by simp only[List.length_singleton];omega),ae ⟨by omega,by omega⟩]
  ·rw[ae ⟨by omega,by omega⟩]
 ·rw[if_neg (by simpa using hi),if_neg hi]
theorem HC (x:O uA) (l:O (O uA)):(CC x l).length<=l.length:=List.length_filter_le ..
abbrev W7:=(O Int)×(O Int)×(O (Int×aw))×(O (Int×Sub))×(O (Int×Bool))×(O ((O uA)×Int))×(O (Int×Int))
abbrev Lv:Sub:=⟨0,0,0,([]:O uA),([]:O (O uA)),([]:O (O uA)),false,false⟩
set_option linter.unusedSectionVars false
section maps
variable {κ α:Type} [BEq κ] [LawfulBEq κ]
theorem iS (p:κ×α) (l:O (κ×α)) (k:κ):aO (p::l) k=if k==p.1 then some p.2 else aO l k:=by
 unfold aO
 rw[List.find?_cons]
 split<;>simp_all
theorem zn (p:κ×α) (l:O (κ×α)) (k:κ):fI (p::l) k=if k==p.1 then some 0 else (fI l k).map (·+1):=by
 unfold fI
 rw[List.findIdx?_cons]
theorem wm (p:κ×α) (l:O (κ×α)) (k:κ) (v:α):fe (p::l) k v=if k==p.1 then (k,v)::l else p::fe l k v:=by
 unfold fe
 rw[zn]
 by_cases h:(k==p.1)=true
 ·rw[if_pos h,if_pos h];rfl
 ·rw[if_neg h,if_neg h]
  cases fI l k<;>rfl
theorem sN (p:κ×α) (l:O (κ×α)) (k:κ):pC (p::l) k=if k==p.1 then l else p::pC l k:=by
 unfold pC
 rw[zn]
 by_cases h:(k==p.1)=true
 ·rw[if_pos h,if_pos h];rfl
 ·rw[if_neg h,if_neg h]
  cases fI l k<;>rfl
theorem gA (k:κ) (v:α) (k':κ):∀ (l:O (κ×α)),aO (fe l k v) k'=if k'==k then some v else aO l k'
 | []=>by
  show aO [(k,v)] k'=_
  rw[iS]
 | p::l=>by
  have ih:=gA k v k' l
  rw[wm]
  by_cases h:(k==p.1)=true
  ·have e:=eq_of_beq h
   rw[if_pos h,iS,iS,←e]
   by_cases h2:(k'==k)=true
   ·rw[if_pos h2,if_pos h2]
   ·rw[if_neg h2,if_neg h2,if_neg h2]
  ·rw[if_neg h,iS,iS,ih]
   by_cases h2:(k'==k)=true
   ·have e:=eq_of_beq h2
    rw[if_pos h2,if_neg (by rw[e];exact h),if_pos h2]
   ·rw[if_neg h2,if_neg h2]
theorem Bi (k:κ) (v:α) (z:κ):∀ (l:O (κ×α)),z∈(fe l k v).map (·.1)↔z=k∨z∈l.map (·.1)
 | []=>by simp[fe,fI]
 | p::l=>by
  rw[wm]
  split
  ·rename_i h
   have e:=eq_of_beq h
   simp[e]
  ·rw[List.map_cons,List.mem_cons,Bi k v z l,List.map_cons,List.mem_cons]
   constructor
   ·rintro (h|h|h)
    ·exact .inr (.inl h)
    ·exact .inl h
    ·exact .inr (.inr h)
   ·rintro (h|h|h)
    ·exact .inr (.inl h)
    ·exact .inl h
    ·exact .inr (.inr h)
theorem uy (k:κ) (v:α):∀ {l:O (κ×α)},(l.map (·.1)).Nodup->((fe l k v).map (·.1)).Nodup
 | [],_=>by simp[fe,fI]
 | p::l,h=>by
  rw[List.map_cons,List.nodup_cons] at h
  rw[wm]
  split
  ·rename_i e
   rw[List.map_cons,List.nodup_cons,show k=p.1 from eq_of_beq e]
   exact h
  ·rename_i e
   rw[List.map_cons,List.nodup_cons]
   refine ⟨λhm=>?_,uy k v h.2⟩
   rcases (Bi k v p.1 l).1 hm with h1|h1
   ·exact e (by rw[h1];exact beq_self_eq_true k)
   ·exact h.1 h1
theorem zo (k:κ) (z:κ):∀ (l:O (κ×α)),z∈(pC l k).map (·.1)->z∈l.map (·.1)
 | [],h=>by simp[pC,fI] at h
 | p::l,h=>by
  rw[sN] at h
  split at h
  ·exact List.mem_cons_of_mem _ h
  ·rw[List.map_cons,List.mem_cons] at h ⊢
   exact h.imp id (zo k z l)
theorem vA (k:κ):∀ {l:O (κ×α)},(l.map (·.1)).Nodup->((pC l k).map (·.1)).Nodup
 | [],_=>by simp[pC,fI]
 | p::l,h=>by
  rw[List.map_cons,List.nodup_cons] at h
  rw[sN]
  split
  ·exact h.2
  ·rw[List.map_cons,List.nodup_cons]
   exact ⟨λhm=>h.1 (zo k _ l hm),vA k h.2⟩
theorem nM (k k':κ):∀ {l:O (κ×α)},(l.map (·.1)).Nodup->aO (pC l k) k'=if k'==k then none else aO l k'
 | [],_=>by
  have:pC ([]:O (κ×α)) k=[]:=rfl
  rw[this];unfold aO;simp
 | p::l,h=>by
  rw[List.map_cons,List.nodup_cons] at h
  rw[sN]
  by_cases e:(k==p.1)=true
  ·have e':=eq_of_beq e
   rw[if_pos e]
   by_cases h2:(k'==k)=true
   ·rw[if_pos h2,FV]
    rw[eq_of_beq h2,e'];exact h.1
   ·rw[if_neg h2,iS,←e',if_neg h2]
  ·rw[if_neg e,iS,iS,nM k k' h.2]
   by_cases h2:(k'==k)=true
   ·rw[if_pos h2,if_neg (by rw[eq_of_beq h2];exact e),if_pos h2]
   ·rw[if_neg h2,if_neg h2]
end maps
def Lw (s:Sub) (e:Event):Sub :=
 if e.kind=5 then { s with numbers:=rW ou e.number s.numbers }
 else if e.kind=6 then { s with numbers:=CC e.number s.numbers }
 else if e.kind=7 then { s with qY:=e.name }
 else if e.kind=8 then { s with bY:=rW ou e.name s.bY }
 else if e.kind=9 then { s with bY:=CC e.name s.bY }
 else if e.kind=10 then { s with aV:=true }
 else if e.kind=11 then { s with aV:=false }
 else if e.kind=12 then { s with family:=true }
 else if e.kind=13 then { s with family:=false }
 else s
def sO (e:Event):Sub:=⟨e.sub,e.aH,e.at_,e.name,[],[],false,false⟩
def Gm (e:Event) (w:W7):O Int:=if e.kind=3/\(aO w.2.2.2.2.1 e.sub).getD false=false then rW Lr e.sub w.2.1 else w.2.1
def Tt (e:Event) (w:W7):O (Int×Bool):=if e.kind=3 then fe w.2.2.2.2.1 e.sub true else w.2.2.2.2.1
def Ax (e:Event) (w:W7):List (Int×Sub) :=
 if e.kind=3 then fe w.2.2.2.1 e.sub (sO e)
 else if e.kind=4 then pC w.2.2.2.1 e.sub
 else if e.kind=1∨e.kind=2∨e.kind=14∨e.kind=15 then w.2.2.2.1
 else match aO w.2.2.2.1 e.sub with
  | some s=>fe w.2.2.2.1 e.sub (Lw s e)
  | none=>w.2.2.2.1
structure WB (n:Nat) (w:W7):Prop where
 opened:w.1.length<=n
 added:w.2.1.length<=n
 nums:∀ k s,aO w.2.2.2.1 k=some s->s.numbers.length<=n/\s.bY.length<=n
 live:∀ k,-(n:Int)<=(aO w.2.2.2.2.2.2 k).getD 0/\(aO w.2.2.2.2.2.2 k).getD 0<=(n:Int)
 keys:(w.2.2.2.1.map (·.1)).Nodup
theorem WB.up {n:Nat} {w:W7} (h:WB n w):WB (n+1) w:=⟨by have:=h.opened;omega,by have:=h.added;omega,λk s hs=>by have:=h.nums k s hs;omega,λk=>by have:=h.live k;omega,h.keys⟩
theorem HD (s:Sub) (e:Event):(Lw s e).numbers.length<=s.numbers.length+1/\(Lw s e).bY.length<=s.bY.length+1:=by
 unfold Lw
 have a:=xA ou e.number s.numbers
 have b:=xA ou e.name s.bY
 have c:=HC e.number s.numbers
 have d:=HC e.name s.bY
 repeat' split
 all_goals first|omega|(simp only;omega)
def VF (e:Event) (w:W7):J W7:=some (w.1,Gm e w,w.2.2.1,Ax e w,Tt e w,w.2.2.2.2.2.1,w.2.2.2.2.2.2)
theorem Nz (n:Nat) (e:Event) (w:W7) (h:WB n w) (hn:n<=10000):∃ w',VF e w=some w'/\WB (n+1) w'/\w'.2.1=Gm e w/\w'.2.2.2.1=Ax e w/\w'.2.2.2.2.1=Tt e w:=by
 have hold:∀ k s,aO w.2.2.2.1 k=some s->s.numbers.length<=n+1/\s.bY.length<=n+1:=λk s hs=>by have:=h.nums k s hs;omega
 refine ⟨_,rfl,⟨by have:=h.opened;simp only;omega,?_,λk s hs=>?_,λk=>by have:=h.live k;simp only;omega,?_⟩,rfl,rfl,rfl⟩
 ·have:=h.added
  show (Gm e w).length<=_
  unfold Gm
  split
  ·rw[xA];omega
  ·omega
 ·change aO (Ax e w) k=some s at hs
  unfold Ax at hs
  split at hs
  ·rw[gA] at hs
   split at hs
   ·cases hs;simp[sO]
   ·exact hold k s hs
  ·split at hs
   ·rw[nM _ _ h.keys] at hs
    split at hs
    ·cases hs
    ·exact hold k s hs
   ·split at hs
    ·exact hold k s hs
    ·split at hs
     ·rename_i s0 h0
      rw[gA] at hs
      split at hs
      ·cases hs
       have a:=h.nums _ _ h0
       have b:=HD s0 e
       omega
      ·exact hold k s hs
     ·exact hold k s hs
 ·show ((Ax e w).map (·.1)).Nodup
  unfold Ax
  split
  ·exact uy _ _ h.keys
  ·split
   ·exact vA _ h.keys
   ·split
    ·exact h.keys
    ·split
     ·exact uy _ _ h.keys
     ·exact h.keys
def w0:W7:=([],[],[],[],[],[],[])
theorem XJ:WB 0 w0:=⟨by simp[w0],by simp[w0],λk s h=>by simp[w0,aO] at h,λk=>by simp[w0,aO],by simp[w0]⟩
def O7 (t:Int):List Event->W7->Option W7
 | [],w=>some w
 | e::l,w=>if e.at_<=t then (VF e w).bind (O7 t l) else O7 t l w
def gh (w:W7):O Sub:=w.2.1.filterMap (aO w.2.2.2.1)
def Ui:List Sub->List ((List uA)×Int)->List ((List uA)×Int)
 | [],o=>o
 | s::l,o=>Ui l (s.numbers.foldl (λo n=>fe o n s.id) o)
def NA (id:Int):List Sub->Sub×Bool
 | []=>(Lv,false)
 | s::l=>if s.id=id then (s,true) else NA id l
def dL (r:aa):O uA:=if r.aP=true then r.b else r.a
def IY (L:List Sub) (n:List uA):Sub×Bool:=match aO (Ui L []) n with
 | none=>(Lv,false)
 | some id=>NA id L
def EB:aG:=⟨0,0,0,0,([]:O uA),([]:O uA),0,0,0,false,0,0⟩
def CD (L:O Sub) (r:aa) (id:Int):aG×Int :=
 if cr r≠0 then (EB,cr r)
 else if r.part≠0 then (EB,8)
 else if (IY L (dL r)).2=false then (EB,11)
 else if (IY L (dL r)).1.aV=true/\r.aP=false then (EB,16)
 else (⟨id,r.kind,(IY L (dL r)).1.aH,(IY L (dL r)).1.id,r.a,r.b,r.start,r.aJ,r.bh,r.aP,r.source,r.aF⟩,0)
abbrev Bk:=ah
def oU {α:Type} (p:α->Bool):List α->Int->Int
 | [],_=>-1
 | a::l,i=>if p a=true then i else oU p l (i+1)
theorem nT {α:Type} [Inhabited α] (p:α->Bool):∀ (l:O α) (i:Int),0<=i->(oU p l i=-1/\∀ a,a∈l->p a=false)∨(i<=oU p l i/\oU p l i<i+l.length/\p (nth l (oU p l i-i).toNat)=true)
 | [],i,_=>.inl ⟨rfl,λa h=>by simp at h⟩
 | a::l,i,hi=>by
  unfold oU
  by_cases h:p a=true
  ·rw[if_pos h]
   refine .inr ⟨by omega,by rw[List.length_cons];omega,?_⟩
   rw[show (i-i).toNat=0 from by omega,mD];exact h
  ·rw[if_neg h]
   rcases nT p l (i+1) (by omega) with ⟨h1,h2⟩|⟨h1,h2,h3⟩
   ·exact .inl ⟨h1,λb hb=>by
     rcases List.mem_cons.1 hb with rfl|hb
     ·simpa using h
     ·exact h2 b hb⟩
   ·refine .inr ⟨by omega,by rw[List.length_cons];omega,?_⟩
    rw[show (oU p l (i+1) - i).toNat=(oU p l (i+1) - (i+1)).toNat+1 from by omega,mC];exact h3
theorem wo (b:Bk) (n:Int) (hl:b.au.length<=100000):fD b n=some (oU (λa=>a.id==n) b.au 0):=by
 unfold fD
 refine bL (step:=λs:Int=>fO b n s) b.au (λs=>s) (λs r=>some (oU (λa=>a.id==n) r s)) (λs r=>0<=s) (by omega) ?_ ?_ (s:=0) rfl (by simp)
 ·rintro i h1 h2
  refine ⟨_,?_,rfl⟩
  unfold fO
  rw[if_neg (by simp only[decide_eq_true_eq];omega)]
  rfl
 ·rintro i x r h1 h2 h3 h4 h5
  unfold fO
  rw[if_pos (by simpa using h3),ae ⟨h2,h3⟩,h4]
  by_cases hx:(x.id==n)=true
  ·rw[if_pos hx]
   exact .inl ⟨_,rfl,by rw[oU,if_pos hx]⟩
  ·rw[if_neg hx,ae ⟨by omega,by omega⟩]
   exact .inr ⟨_,rfl,by omega,rfl,by rw[oU,if_neg hx]⟩
def fY (b:Bk) (n:Int):Int:=oU (λa:Sub=>a.id==n) b.aN 0
theorem zp (b:Bk) (n:Int) (hl:b.aN.length<=100000):jc b n=some (fY b n):=by
 unfold jc
 refine bL (step:=λs:Int=>kv b n s) b.aN (λs=>s) (λs r=>some (oU (λa:Sub=>a.id==n) r s)) (λs r=>0<=s) (by omega) ?_ ?_ (s:=0) rfl (by simp)
 ·rintro i h1 h2
  refine ⟨_,?_,rfl⟩
  unfold kv
  rw[if_neg (by simp only[decide_eq_true_eq];omega)]
  rfl
 ·rintro i x r h1 h2 h3 h4 h5
  unfold kv
  rw[if_pos (by simpa using h3),ae ⟨h2,h3⟩,h4]
  by_cases hx:(x.id==n)=true
  ·rw[if_pos hx]
   exact .inl ⟨_,rfl,by rw[oU,if_pos hx]⟩
  ·rw[if_neg hx,ae ⟨by omega,by omega⟩]
   exact .inr ⟨_,rfl,by omega,rfl,by rw[oU,if_neg hx]⟩
theorem xC (b:Bk) (n:Int) (hl:b.ended.length<=100000):gg b n=some (decide (n∈b.ended)):=by
 unfold gg
 refine bL (step:=λs:Int=>iw b n s) b.ended (λs=>s) (λs r=>some (decide (n∈r))) (λs r=>0<=s) (by omega) ?_ ?_ (s:=0) rfl (by simp)
 ·rintro i h1 h2
  refine ⟨_,?_,rfl⟩
  unfold iw
  rw[if_neg (by simp only[decide_eq_true_eq];omega)]
  simp
 ·rintro i x r h1 h2 h3 h4 h5
  unfold iw
  rw[if_pos (by simpa using h3),ae ⟨h2,h3⟩,h4]
  by_cases hx:x=n
  ·rw[if_pos (by simpa using hx)]
   exact .inl ⟨_,rfl,by simp[hx]⟩
  ·rw[if_neg (by simpa using hx),ae ⟨by omega,by omega⟩]
   exact .inr ⟨_,rfl,by omega,rfl,by simp[Ne.symm hx]⟩
theorem CE (l:O (O uA)) (n:O uA) (hl:l.length<=100000):jd l n=some (decide (n∈l)):=by
 unfold jd
 refine bL (step:=λs:Int=>kx l n s) l (λs=>s) (λs r=>some (decide (n∈r))) (λs r=>0<=s) (by omega) ?_ ?_ (s:=0) rfl (by simp)
 ·rintro i h1 h2
  refine ⟨_,?_,rfl⟩
  unfold kx
  rw[if_neg (by simp only[decide_eq_true_eq];omega)]
  simp
 ·rintro i x r h1 h2 h3 h4 h5
  unfold kx
  rw[if_pos (by simpa using h3),ae ⟨h2,h3⟩,h4]
  by_cases hx:x=n
  ·rw[if_pos (by simpa using hx)]
   exact .inl ⟨_,rfl,by simp[hx]⟩
  ·rw[if_neg (by simpa using hx),ae ⟨by omega,by omega⟩]
   exact .inr ⟨_,rfl,by omega,rfl,by simp[Ne.symm hx]⟩
structure BB (n:Nat) (b:Bk):Prop where
 Gn:b.au.length<=n
 aN:b.aN.length<=n
 ended:b.ended.length<=n
 nums:∀ s,s∈b.aN->s.numbers.length<=n/\s.bY.length<=n
theorem BB.up {n:Nat} {b:Bk} (h:BB n b):BB (n+1) b:=⟨by have:=h.Gn;omega,by have:=h.aN;omega,by have:=h.ended;omega,λs hs=>by have:=h.nums s hs;omega⟩
theorem NB (b:Bk) (x:O uA) (n:Nat) (h:BB n b) (hn:n<=10000):mI b x=some (b.aN.any λs=>decide (x∈s.numbers)):=by
 unfold mI
 have hl:=h.aN
 refine bL (step:=λs:Int=>iy b x s) b.aN (λs=>s) (λs r=>some (r.any λs=>decide (x∈s.numbers))) (λs r=>0<=s/\∀ y,y∈r->y.numbers.length<=n) (by omega) ?_ ?_ (s:=0) rfl ⟨by simp,λy hy=>(h.nums y hy).1⟩
 ·rintro i ⟨h1,_⟩ h2
  refine ⟨_,?_,rfl⟩
  unfold iy
  rw[if_neg (by simp only[decide_eq_true_eq];omega)]
  simp
 ·rintro i y r ⟨h1,h2⟩ h3 h4 h5 h6
  have hy:=h2 y (List.mem_cons_self ..)
  unfold iy
  rw[if_pos (by simpa using h4),ae ⟨h3,h4⟩,h5,CE _ _ (by omega),Option.bind_some]
  by_cases hx:x∈y.numbers
  ·rw[if_pos (by simpa using hx)]
   exact .inl ⟨_,rfl,by simp[hx]⟩
  ·rw[if_neg (by simpa using hx),ae ⟨by omega,by omega⟩]
   exact .inr ⟨_,rfl,⟨by omega,λz hz=>h2 z (List.mem_cons_of_mem _ hz)⟩,rfl,by simp[hx]⟩
theorem QX (b:Bk) (k:Int) (n:Nat) (h:BB n b) (hn:n<=10000):∃ y,oy b k=some y:=by
 unfold oy
 have hl:=h.aN
 have he:=h.ended
 refine ⟨_,bL (step:=λs:Int=>jB b k s) b.aN (λs=>s) (λs r=>some (r.any λs=>(s.aH==k) && !decide (s.id∈b.ended))) (λs r=>0<=s) (by omega) ?_ ?_ (s:=0) rfl (by simp)⟩
 ·rintro i h1 h2
  refine ⟨_,?_,rfl⟩
  unfold jB
  rw[if_neg (by simp only[decide_eq_true_eq];omega)]
  simp
 ·rintro i y r h1 h3 h4 h5 h6
  unfold jB
  rw[if_pos (by simpa using h4),ae ⟨h3,h4⟩,ae (λ_=>⟨h3,h4⟩),h5,xC _ _ (by omega)]
  by_cases ha:(y.aH==k)=true
  ·simp only[ha,eG,if_true,Option.bind_some,Bool.true_and]
   by_cases hx:y.id∈b.ended
   ·rw[if_neg (by simpa using hx),ae ⟨by omega,by omega⟩]
    exact .inr ⟨_,rfl,by omega,rfl,by simp[ha,hx]⟩
   ·rw[if_pos (by simpa using hx)]
    exact .inl ⟨_,rfl,by simp[ha,hx]⟩
  ·have JQ:(y.aH==k)=false:=by simpa using ha
   simp only[JQ,eG,Bool.false_eq_true,if_false,Option.bind_some,Bool.false_and]
   rw[ae ⟨by omega,by omega⟩]
   exact .inr ⟨_,rfl,by omega,rfl,by simp[JQ]⟩
def jl (k:Int):O Bool :=
 if k=1 then [true,false,false,true,true] else if k=2 then [true,false,false,false,false] else if k=3 then [true,true,false,true,false]
 else if k=5∨k=6 then [false,true,true,false,false] else if k=7∨k=8∨k=9 then [false,true,false,true,false] else if k=14∨k=15 then [true,false,false,false,true] else [false,true,false,false,false]
theorem Lx (k:Int):lO k=some (jl k):=by
 unfold lO jl
 have h3:∀ b:Bool,(b=true->k=14∨k=15)->(b=false->¬(k=14∨k=15))->fB b=some (if k=14∨k=15 then [true,false,false,false,true] else [false,true,false,false,false]):=λb h1 h2=>by
  unfold fB
  cases b with
  | true=>rw[if_pos rfl,if_pos (h1 rfl)]
  | false=>rw[if_neg (by simp),if_neg (h2 rfl)]
 have h2:∀ b:Bool,(b=true->k=7∨k=8∨k=9)->(b=false->¬(k=7∨k=8∨k=9))->eH k b=some (if k=7∨k=8∨k=9 then [false,true,false,true,false] else if k=14∨k=15 then [true,false,false,false,true] else [false,true,false,false,false]):=λb h1 h2=>by
  unfold eH
  cases b with
  | true=>rw[if_pos rfl,if_pos (h1 rfl)]
  | false =>
   rw[if_neg (by simp),if_neg (h2 rfl)]
   by_cases NC:k=14
   ·rw[if_pos (by simpa using NC)];exact h3 _ (λ_=>.inl NC) (λh=>by simp[NC] at h)
   ·rw[if_neg (by simpa using NC)];exact h3 _ (λh=>.inr (by simpa using h)) (λh=>by rw[beq_eq_false_iff_ne] at h;omega)
 have h1:∀ b:Bool,(b=true->k=5∨k=6)->(b=false->¬(k=5∨k=6))->fC k b=some (if k=5∨k=6 then [false,true,true,false,false] else if k=7∨k=8∨k=9 then [false,true,false,true,false] else if k=14∨k=15 then [true,false,false,false,true] else [false,true,false,false,false]):=λb h1 CX=>by
  unfold fC
  cases b with
  | true=>rw[if_pos rfl,if_pos (h1 rfl)]
  | false =>
   rw[if_neg (by simp),if_neg (CX rfl)]
   by_cases k7:k=7
   ·rw[if_pos (by simpa using k7)];exact h2 _ (λ_=>.inl k7) (λh=>by simp[k7] at h)
   rw[if_neg (by simpa using k7)]
   by_cases k8:k=8
   ·rw[if_pos (by simpa using k8)];exact h2 _ (λ_=>.inr (.inl k8)) (λh=>by simp[k8] at h)
   rw[if_neg (by simpa using k8)]
   exact h2 _ (λh=>.inr (.inr (by simpa using h))) (λh=>by rw[beq_eq_false_iff_ne] at h;omega)
 by_cases k1:k=1
 ·rw[if_pos (by simpa using k1),if_pos k1]
 rw[if_neg (by simpa using k1),if_neg k1]
 by_cases k2:k=2
 ·rw[if_pos (by simpa using k2),if_pos k2]
 rw[if_neg (by simpa using k2),if_neg k2]
 by_cases k3:k=3
 ·rw[if_pos (by simpa using k3),if_pos k3]
 rw[if_neg (by simpa using k3),if_neg k3]
 by_cases k5:k=5
 ·rw[if_pos (by simpa using k5)];exact h1 _ (λ_=>.inl k5) (λh=>by simp[k5] at h)
 rw[if_neg (by simpa using k5)]
 exact h1 _ (λh=>.inr (by simpa using h)) (λh=>by rw[beq_eq_false_iff_ne] at h;omega)
theorem QY (s:O uA) (hl:s.length<=9223372036854775807):∃ y,ow s=some y:=by
 unfold ow
 by_cases h:(decide ((s.length:Int)<1) || decide ((s.length:Int) > 24))=true
 ·rw[ae (by simp[h]),ae (by simp[h]),if_pos (by simp[h])];exact ⟨_,rfl⟩
 ·have h':¬((s.length:Int)<1):=by simp at h;omega
  have hl:s.length<=24:=by simp at h;omega
  rw[ae (λ_=>⟨by omega,by omega⟩),ae (λ_=>⟨by omega,by omega⟩)]
  split
  ·exact ⟨_,rfl⟩
  ·refine ⟨_,bL (step:=λi:Int=>jA s i) s (λi=>i) (λi r=>some (r.all λc=>!((((decide (c<97)) || (decide (c > 122))) && ((decide (c<48)) || (decide (c > 57)))) && (c != 45)))) (λi r=>0<=i) (by omega) ?_ ?_ (s:=0) rfl (by simp)⟩
   ·rintro i h1 h2
    refine ⟨_,?_,rfl⟩
    unfold jA
    rw[if_neg (by simp only[decide_eq_true_eq];omega)]
    simp
   ·rintro i c r h1 h2 h3 h4 h5
    unfold jA
    rw[if_pos (by simpa using h3),ae ⟨h2,h3⟩,ae (λ_=>⟨h2,h3⟩),ae (λ_=>⟨h2,h3⟩),ae (λ_=>⟨h2,h3⟩),ae (λ_=>⟨h2,h3⟩),h4]
    split
    ·rename_i hc
     exact .inl ⟨_,rfl,by simp only[List.all_cons,hc,Bool.not_true,Bool.false_and]⟩
    ·rename_i hc
     rw[ae ⟨by omega,by omega⟩]
     exact .inr ⟨_,rfl,by omega,rfl,by rw[List.all_cons,Bool.not_eq_true _ |>.mp hc];rfl⟩
structure Gp (e:Event) (last:Int):Prop where
 kind:1<=e.kind/\e.kind<=15
 at_:last<=e.at_
 sub:¬(e.kind=1∨e.kind=2∨e.kind=14∨e.kind=15)->1<=e.sub/\e.sub<=9999
 num:e.kind=5->e.number≠[]
 VG:e.kind=3->1<=e.aH/\e.aH<=9999
theorem ND (e:Event):∃ y,mH e=some y:=by
 unfold mH
 split
 ·exact ⟨_,rfl⟩
 ·split<;>exact ⟨_,rfl⟩
theorem rA {α:Type} [Inhabited α] (b:Bool) (x:α):∃ y,eG b (some x)=some y/\(b=true->y=x):=⟨_,qs,λh=>by rw[if_pos h]⟩
theorem QZ (e:Event) (last:Int) (h1:e.name.length<=9223372036854775807) (h2:e.number.length<=9223372036854775807):∃ y,ox e last=some y/\(y=0->Gp e last):=by
 obtain ⟨nb,XK⟩:=QY e.name (by omega)
 obtain ⟨vb,Rq⟩:=ND e
 unfold ox
 rw[Lx,XK,Ba _ (by omega),Rq]
 unfold sr
 simp only[Option.bind_some]
 by_cases c1:(decide (e.kind<1) || decide (e.kind > 15))=true
 ·rw[if_pos c1];exact ⟨_,rfl,by omega⟩
 rw[if_neg c1]
 by_cases c2:(decide (e.at_<0) || decide (e.at_>=12622780800))=true
 ·rw[if_pos c2];exact ⟨_,rfl,by omega⟩
 rw[if_neg c2]
 by_cases c3:decide (e.at_<last)=true
 ·rw[if_pos c3];exact ⟨_,rfl,by omega⟩
 rw[if_neg c3]
 have k1:1<=e.kind/\e.kind<=15:=by simp at c1;omega
 have k2:last<=e.at_:=by simpa using c3
 split
 ·exact ⟨_,rfl,by omega⟩
 obtain ⟨y2,gN,q2⟩:=rA (nth (jl e.kind) 0) (decide (e.aH>=1) && decide (e.aH<=9999))
 rw[gN,Option.bind_some]
 obtain ⟨y3,mA,q3⟩:=rA ((!((nth (jl e.kind) 0) && (!y2))) && (nth (jl e.kind) 1)) (decide (e.sub>=1) && decide (e.sub<=9999))
 rw[mA,Option.bind_some]
 by_cases c5:((nth (jl e.kind) 0 && !y2) || (nth (jl e.kind) 1 && !y3))=true
 ·rw[if_pos c5];exact ⟨_,rfl,by omega⟩
 rw[if_neg c5]
 obtain ⟨y4,vf,q4⟩:=rA (nth (jl e.kind) 3) nb
 rw[vf,Option.bind_some]
 split
 ·exact ⟨_,rfl,by omega⟩
 obtain ⟨y5,Ad,q5⟩:=rA (nth (jl e.kind) 2) (js e.number)
 rw[Ad,Option.bind_some]
 by_cases c7:(nth (jl e.kind) 2 && !y5)=true
 ·rw[if_pos c7];exact ⟨_,rfl,by omega⟩
 rw[if_neg c7]
 obtain ⟨y6,Gc,q6⟩:=rA (nth (jl e.kind) 4) vb
 rw[Gc,Option.bind_some]
 have fin:Gp e last:=by
  refine ⟨k1,k2,λhk=>?_,λhk=>?_,λhk=>?_⟩
  ·have hu:nth (jl e.kind) 1=true:=by
    unfold jl
    rw[if_neg (by omega),if_neg (by omega)]
    split
    ·rfl
    split
    ·rfl
    split
    ·rfl
    rw[if_neg (by omega)]
    rfl
   have XL:(nth (jl e.kind) 0 && !y2)=false:=by
    cases hh:(nth (jl e.kind) 0 && !y2) with
    | false=>rfl
    | true=>rw[hh] at c5;simp at c5
   rw[XL,hu] at q3 c5
   have XM:y3=true:=by cases y3<;>simp_all
   have:=q3 rfl
   rw[XM] at this
   simp at this
   omega
  ·have hu:nth (jl e.kind) 2=true:=by
    unfold jl
    rw[if_neg (by omega),if_neg (by omega),if_neg (by omega),if_pos (.inl hk)]
    rfl
   rw[hu] at c7 q5
   have XN:y5=true:=by cases y5<;>simp_all
   have hv:=q5 rfl
   rw[XN] at hv
   intro hn
   rw[hn] at hv
   simp[js] at hv
  ·have hu:nth (jl e.kind) 0=true:=by
    unfold jl
    simp[hk,nth]
   rw[hu] at q2 c5
   have XO:y2=true:=by
    cases hh:y2 with
    | true=>rfl
    | false=>rw[hh] at c5;exact absurd rfl c5
   have:=q2 rfl
   rw[XO] at this
   simp at this
   omega
 split
 ·exact ⟨_,rfl,by omega⟩
 ·exact ⟨_,rfl,λ_=>fin⟩
def zq (b:Bk) (n:Int):Int:=oU (λa:aw=>a.id==n) b.au 0
theorem EC (b:Bk) (e:Event) (n:Nat) (h:BB n b) (hn:n<=10000):∃ y,gD b e=some y/\(y=0->(e.kind=3->fY b e.sub=-1)/\(e.kind≠1->0<=zq b e.aH/\zq b e.aH<(b.au.length:Int))):=by
 have ha:=h.Gn
 have hs:=h.aN
 obtain ⟨XP,XQ⟩:=QX b e.aH n h hn
 unfold gD
 rw[wo b _ (by omega),Option.bind_some,zp b _ (by omega),XQ]
 rw[show oU (λa:aw=>a.id==e.aH) b.au 0=zq b e.aH from rfl]
 have sp:(zq b e.aH=-1)∨(0<=zq b e.aH/\zq b e.aH<(b.au.length:Int)):=by
  rcases nT (λa:aw=>a.id==e.aH) b.au 0 (by omega) with ⟨q,_⟩|⟨q1,q2,_⟩
  ·exact .inl q
  ·exact .inr ⟨q1,by unfold zq;omega⟩
 have sq:fY b e.sub=-1∨0<=fY b e.sub:=by
  rcases nT (λa:Sub=>a.id==e.sub) b.aN 0 (by omega) with ⟨q,_⟩|⟨q1,q2,_⟩
  ·exact .inl q
  ·exact .inr q1
 by_cases k1:e.kind=1
 ·rw[if_pos (by simpa using k1)]
  split
  ·exact ⟨_,rfl,by omega⟩
  ·exact ⟨_,rfl,λ_=>⟨by omega,by omega⟩⟩
 rw[if_neg (by simpa using k1)]
 by_cases k2:zq b e.aH<0
 ·rw[if_pos (by simpa using k2)];exact ⟨_,rfl,by omega⟩
 rw[if_neg (by simpa using k2),ae (by omega)]
 split
 ·exact ⟨_,rfl,by omega⟩
 obtain ⟨y2,gN,q2⟩:=rA (e.kind==3) (fY b e.sub)
 rw[gN,Option.bind_some]
 by_cases c2:((e.kind==3) && decide (y2>=0))=true
 ·rw[if_pos c2];exact ⟨_,rfl,by omega⟩
 rw[if_neg c2]
 obtain ⟨y3,mA,q3⟩:=rA (e.kind==2) XP
 rw[mA,Option.bind_some,ae (by intro _;omega)]
 split
 ·exact ⟨_,rfl,by omega⟩
 refine ⟨_,rfl,λ_=>⟨λk3=>?_,λ_=>by omega⟩⟩
 have e2:=q2 (by simpa using k3)
 rcases sq with q|q
 ·exact q
 ·exact absurd (by simp[k3,e2,q]) c2
theorem NG (b:Bk) (e:Event) (n:Nat) (h:BB n b) (hn:n<=10000):∃ y,mJ b e=some y/\(y=0->(0<=fY b e.sub/\fY b e.sub<(b.aN.length:Int))/\e.sub ∉ b.ended/\(e.kind=5->∀ s,s∈b.aN->e.number ∉ s.numbers)):=by
 have hs:=h.aN
 have he:=h.ended
 unfold mJ
 rw[zp b _ (by omega),Option.bind_some]
 by_cases k1:fY b e.sub<0
 ·rw[if_pos (by simpa using k1)];exact ⟨_,rfl,by omega⟩
 rw[if_neg (by simpa using k1),xC b _ (by omega),Option.bind_some]
 by_cases k2:e.sub∈b.ended
 ·rw[if_pos (by simpa using k2)];exact ⟨_,rfl,by omega⟩
 rw[if_neg (by simpa using k2)]
 have sp:0<=fY b e.sub/\fY b e.sub<(b.aN.length:Int):=by
  rcases nT (λa:Sub=>a.id==e.sub) b.aN 0 (by omega) with ⟨q,_⟩|⟨q1,q2,_⟩
  ·unfold fY at k1;omega
  ·unfold fY;omega
 rw[ae sp]
 have hm:=h.nums _ (te (l:=b.aN) (k:=(fY b e.sub).toNat) (by omega))
 by_cases k5:e.kind=5
 ·rw[if_pos (by simpa using k5),NB b _ n h hn,Option.bind_some]
  split
  ·exact ⟨_,rfl,by omega⟩
  ·rename_i c
   refine ⟨_,rfl,λ_=>⟨sp,k2,λ_ s v9 hx=>c ?_⟩⟩
   rw[List.any_eq_true];exact ⟨s,v9,by simpa using hx⟩
 rw[if_neg (by simpa using k5)]
 have ok:∀ y:Int,∃ z,some y=some z/\(z=0->(0<=fY b e.sub/\fY b e.sub<(b.aN.length:Int))/\e.sub ∉ b.ended/\(e.kind=5->∀ s,s∈b.aN->e.number ∉ s.numbers)):=λy=>⟨y,rfl,λ_=>⟨sp,k2,λk=>absurd k k5⟩⟩
 rw[CE _ _ (by omega),CE _ _ (by omega)]
 simp only[Option.bind_some]
 unfold fQ fP
 repeat' split
 all_goals exact ok _
structure xD (b:Bk) (e:Event) (last:Int):Prop where
 form:Gp e last
 acc:e.kind=2->0<=zq b e.aH/\zq b e.aH<(b.au.length:Int)
 add:e.kind=3->fY b e.sub=-1
 sub:¬(e.kind=1∨e.kind=2∨e.kind=3∨e.kind=14∨e.kind=15)->(0<=fY b e.sub/\fY b e.sub<(b.aN.length:Int))/\e.sub ∉ b.ended/\(e.kind=5->∀ s,s∈b.aN->e.number ∉ s.numbers)
theorem HE (b:Bk) (e:Event) (last:Int) (n:Nat) (h:BB n b) (hn:n<=10000) (h1:e.name.length<=9223372036854775807) (h2:e.number.length<=9223372036854775807):∃ y,kc b e last=some y/\(y=0->xD b e last):=by
 obtain ⟨y1,e1,q1⟩:=QZ e last h1 h2
 obtain ⟨y2,e2,q2⟩:=EC b e n h hn
 obtain ⟨y3,e3,q3⟩:=NG b e n h hn
 unfold kc
 rw[e1,Option.bind_some,Lx,Option.bind_some,e2,e3]
 by_cases c1:y1=0
 ·rw[if_neg (by simpa using c1)]
  have f:=q1 c1
  by_cases c2:nth (jl e.kind) 0=true
  ·rw[if_pos c2]
   refine ⟨y2,rfl,λh0=>⟨f,λk=>(q2 h0).2 (by omega),λk=>(q2 h0).1 k,λk=>?_⟩⟩
   exfalso
   unfold jl at c2
   rw[if_neg (by omega),if_neg (by omega),if_neg (by omega)] at c2
   split at c2
   ·simp[nth] at c2
   split at c2
   ·simp[nth] at c2
   rw[if_neg (by omega)] at c2
   simp[nth] at c2
  ·rw[if_neg c2]
   have k0:¬(e.kind=1∨e.kind=2∨e.kind=3∨e.kind=14∨e.kind=15):=λk=>c2 (by
    unfold jl
    rcases k with k|k|k|k|k<;>simp[k,nth])
   exact ⟨y3,rfl,λh0=>⟨f,λk=>absurd (.inr (.inl k)) k0,λk=>absurd (.inr (.inr (.inl k))) k0,λ_=>q3 h0⟩⟩
 ·rw[if_pos (by simpa using c1)];exact ⟨y1,rfl,λh0=>absurd h0 c1⟩
def CS (s:Sub) (e:Event):Sub:=if e.kind=4 then { s with numbers:=[],bY:=[] } else Lw s e
theorem Gq (s:Sub) (e:Event) (h1:s.numbers.length<=100000) (h2:s.bY.length<=100000):jC s e=some (CS s e):=by
 unfold jC CS Lw
 by_cases k4:e.kind=4
 ·rw[if_pos (by simpa using k4),if_pos k4]
 rw[if_neg (by simpa using k4),if_neg k4]
 by_cases k5:e.kind=5
 ·rw[if_pos (by simpa using k5),Ls _ _ h1,if_pos k5];rfl
 rw[if_neg (by simpa using k5),if_neg k5]
 by_cases k6:e.kind=6
 ·rw[if_pos (by simpa using k6),Bh _ _ h1,if_pos k6];rfl
 rw[if_neg (by simpa using k6),if_neg k6]
 by_cases k7:e.kind=7
 ·rw[if_pos (by simpa using k7),if_pos k7]
 rw[if_neg (by simpa using k7),if_neg k7]
 by_cases k8:e.kind=8
 ·rw[if_pos (by simpa using k8),Ls _ _ h2,if_pos k8];rfl
 rw[if_neg (by simpa using k8),if_neg k8]
 by_cases k9:e.kind=9
 ·rw[if_pos (by simpa using k9),Bh _ _ h2,if_pos k9];rfl
 rw[if_neg (by simpa using k9),if_neg k9]
 by_cases Uj:e.kind=10
 ·rw[if_pos (by simpa using Uj),if_pos Uj]
 rw[if_neg (by simpa using Uj),if_neg Uj]
 by_cases Uk:e.kind=11
 ·rw[if_pos (by simpa using Uk),if_pos Uk]
 rw[if_neg (by simpa using Uk),if_neg Uk]
 by_cases Ul:e.kind=12
 ·rw[if_pos (by simpa using Ul),if_pos Ul]
 rw[if_neg (by simpa using Ul),if_neg Ul]
 by_cases Um:e.kind=13
 ·rw[if_pos (by simpa using Um),if_pos Um]
 rw[if_neg (by simpa using Um),if_neg Um]
theorem NH (s:Sub) (e:Event):(CS s e).numbers.length<=s.numbers.length+1/\(CS s e).bY.length<=s.bY.length+1:=by
 unfold CS
 split
 ·simp
 ·exact HD s e
def Ly (b:Bk) (e:Event):O Sub :=
 if e.kind=3 then b.aN++[sO e]
 else if e.kind=1∨e.kind=2∨e.kind=14∨e.kind=15 then b.aN
 else b.aN.set (fY b e.sub).toNat (CS (nth b.aN (fY b e.sub).toNat) e)
def IZ (b:Bk) (e:Event):O Int:=if e.kind=4 then b.ended++[e.sub] else b.ended
theorem CF (b:Bk) (e:Event) (last:Int) (n:Nat) (h:BB n b) (hn:n<=10000) (f:xD b e last):∃ b',dQ b e=some b'/\BB (n+1) b'/\b'.aN=Ly b e/\b'.ended=IZ b e:=by
 have ha:=h.Gn
 have hs:=h.aN
 have he:=h.ended
 have up:=h.up
 unfold dQ
 rw[ae (by omega),ae (by omega),ae (by omega)]
 unfold Ly IZ
 simp only[List.nil_append]
 by_cases k1:e.kind=1
 ·have n3:¬e.kind=3:=by omega
  have n4:¬e.kind=4:=by omega
  rw[if_pos (by simpa using k1),ae (by simp only[List.length_singleton];omega),if_neg n3,if_pos (.inl k1),if_neg n4]
  exact ⟨_,rfl,⟨by simp only[List.length_append,List.length_singleton];omega,up.aN,up.ended,up.nums⟩,rfl,rfl⟩
 rw[if_neg (by simpa using k1)]
 by_cases k2:e.kind=2
 ·have n3:¬e.kind=3:=by omega
  have n4:¬e.kind=4:=by omega
  have hk:=f.acc k2
  rw[if_pos (by simpa using k2),wo b _ (by omega),Option.bind_some,show oU (λa:aw=>a.id==e.aH) b.au 0=zq b e.aH from rfl,ae hk,ae (by omega),if_neg n3,if_pos (.inr (.inl k2)),if_neg n4]
  exact ⟨_,rfl,⟨by simp only[List.length_set];omega,up.aN,up.ended,up.nums⟩,rfl,rfl⟩
 rw[if_neg (by simpa using k2)]
 by_cases k3:e.kind=3
 ·have n4:¬e.kind=4:=by omega
  rw[if_pos (by simpa using k3),ae (by simp only[List.length_singleton];omega),if_pos k3,if_neg n4]
  refine ⟨_,rfl,⟨up.Gn,by simp only[List.length_append,List.length_singleton];omega,up.ended,λs v9=>?_⟩,rfl,rfl⟩
  simp only[List.mem_append,List.mem_singleton] at v9
  rcases v9 with v9|rfl
  ·exact up.nums s v9
  ·simp
 rw[if_neg (by simpa using k3),if_neg k3]
 have hj:∀ c:Bool,(c=true->e.kind=14∨e.kind=15)->(c=false->¬(e.kind=14∨e.kind=15))->∃ b',eR b e c=some b'/\BB (n+1) b'/\b'.aN=(if e.kind=1∨e.kind=2∨e.kind=14∨e.kind=15 then b.aN else b.aN.set (fY b e.sub).toNat (CS (nth b.aN (fY b e.sub).toNat) e))/\b'.ended=(if e.kind=4 then b.ended++[e.sub] else b.ended):=λc VH VI=>by
  unfold eR
  simp only[List.nil_append]
  cases c with
  | true =>
   have:=VH rfl
   rw[if_pos rfl,if_pos (.inr (.inr this)),if_neg (by omega)]
   exact ⟨_,rfl,up,rfl,rfl⟩
  | false =>
   have:=VI rfl
   obtain ⟨sp,_,_⟩:=f.sub (by omega)
   have hm:=h.nums _ (te (l:=b.aN) (k:=(fY b e.sub).toNat) (by omega))
   have hc:=NH (nth b.aN (fY b e.sub).toNat) e
   rw[if_neg (by simp),zp b _ (by omega),Option.bind_some,ae sp,ae (by omega),Gq _ _ (by omega) (by omega),Option.bind_some,ae sp,ae (by omega)]
   have O8:∀ s,s∈b.aN.set (fY b e.sub).toNat (CS (nth b.aN (fY b e.sub).toNat) e)->s.numbers.length<=n+1/\s.bY.length<=n+1:=λs v9=>by
    rcases List.mem_or_eq_of_mem_set v9 with h9|rfl
    ·exact up.nums s h9
    ·omega
   rw[if_neg (show ¬(e.kind=1∨e.kind=2∨e.kind=14∨e.kind=15) by omega)]
   by_cases k4:e.kind=4
   ·rw[if_pos (by simpa using k4),ae (by simp only[List.length_singleton];omega),if_pos k4]
    exact ⟨_,rfl,⟨up.Gn,by simp only[List.length_set];omega,by simp only[List.length_append,List.length_singleton];omega,O8⟩,rfl,rfl⟩
   ·rw[if_neg (by simpa using k4),if_neg k4]
    exact ⟨_,rfl,⟨up.Gn,by simp only[List.length_set];omega,up.ended,O8⟩,rfl,rfl⟩
 by_cases NC:e.kind=14
 ·rw[if_pos (by simpa using NC)]
  exact hj _ (λ_=>.inl NC) (λk=>by simp[NC] at k)
 ·rw[if_neg (by simpa using NC)]
  exact hj _ (λk=>.inr (by simpa using k)) (λk=>by rw[beq_eq_false_iff_ne] at k;omega)
def b0:Bk:=⟨[],[],[]⟩
theorem VJ:BB 0 b0:=⟨by simp[b0],by simp[b0],by simp[b0],λs h=>by simp[b0] at h⟩
def Gr:List Event->Int->Int->Bk->Option (Int×Int)
 | [],_,_,_=>some (0,0)
 | e::l,i,last,b=>(kc b e last).bind λy=>if y≠0 then some (i,y) else (dQ b e).bind λb'=>Gr l (i+1) e.at_ b'
def VC:Bk->Int->List Event->Prop
 | _,_,[]=>True
 | b,last,e::l=>xD b e last/\∃ b',dQ b e=some b'/\VC b' e.at_ l
def Tu (l:O Event):Prop:=∀ e,e∈l->e.name.length<=9223372036854775807/\e.number.length<=9223372036854775807
theorem HF:∀ (l:O Event) (i last:Int) (b:Bk) (n:Nat),BB n b->n+l.length<=10000->Tu l->∃ x,Gr l i last b=some x/\(x.2=0->VC b last l)
 | [],i,last,b,n,_,_,_=>⟨_,rfl,λ_=>trivial⟩
 | e::l,i,last,b,n,hb,hl,hs=>by
  rw[List.length_cons] at hl
  have he:=hs e (List.mem_cons_self ..)
  obtain ⟨y,hy,f⟩:=HE b e last n hb (by omega) he.1 he.2
  unfold Gr
  rw[hy,Option.bind_some]
  by_cases h0:y=0
  ·rw[if_neg (by omega)]
   obtain ⟨b',ha,gQ,_⟩:=CF b e last n hb (by omega) (f h0)
   rw[ha,Option.bind_some]
   obtain ⟨x,h1,h2⟩:=HF l (i+1) e.at_ b' (n+1) gQ (by omega) (λz hz=>hs z (List.mem_cons_of_mem _ hz))
   exact ⟨x,h1,λh=>⟨f h0,b',ha,h2 h⟩⟩
  ·rw[if_pos h0]
   exact ⟨_,rfl,λh=>absurd h h0⟩
theorem Gs (cb:O Event) (hl:cb.length<=1000) (hs:Tu cb):mK cb=Gr cb 0 0 b0:=by
 unfold mK
 rw[if_neg (by simp;omega)]
 refine bL (step:=λs:Int×Int×O aw×O Sub×O Int=>iz cb s.1 s.2.1 s.2.2.1 s.2.2.2.1 s.2.2.2.2) cb (λs=>s.2.1) (λs r=>Gr r s.2.1 s.1 ⟨s.2.2.1,s.2.2.2.1,s.2.2.2.2⟩)
  (λs r=>0<=s.2.1/\Tu r/\∃ n,BB n ⟨s.2.2.1,s.2.2.2.1,s.2.2.2.2⟩/\n+r.length<=10000) (by omega) ?_ ?_ (s:=(0,0,[],[],[])) rfl ⟨by simp,hs,0,VJ,by omega⟩
 ·rintro ⟨last,i,a,s,en⟩ ⟨h1,_⟩ h2
  try simp only at h2
  refine ⟨(0,0),?_,rfl⟩
  unfold iz
  rw[if_neg (by simp only[decide_eq_true_eq];omega)]
 ·rintro ⟨last,i,a,s,en⟩ e r ⟨h1,pz,n,hb,h2⟩ h3 h4 h5 h6
  simp only at h1 h2 h3 h4 h5 h6 hb
  rw[List.length_cons] at h2
  have he:=pz e (List.mem_cons_self ..)
  obtain ⟨y,hy,f⟩:=HE ⟨a,s,en⟩ e last n hb (by omega) he.1 he.2
  unfold iz
  simp only
  rw[if_pos (by simpa using h4),ae ⟨h3,h4⟩,h5,hy,Option.bind_some]
  by_cases h0:y=0
  ·obtain ⟨b',ha,gQ,_⟩:=CF ⟨a,s,en⟩ e last n hb (by omega) (f h0)
   rw[if_neg (by simpa using h0),ae ⟨h3,h4⟩,ha,Option.bind_some,ae ⟨h3,h4⟩,ae ⟨by omega,by omega⟩]
   refine .inr ⟨(e.at_,i+1,b'.au,b'.aN,b'.ended),rfl,⟨by simp only;omega,λz hz=>pz z (List.mem_cons_of_mem _ hz),n+1,gQ,by omega⟩,rfl,?_⟩
   simp only
   rw[Gr,hy,Option.bind_some,if_neg (by omega),ha,Option.bind_some]
  ·rw[if_pos (by simpa using h0)]
   refine .inl ⟨_,rfl,?_⟩
   try simp only
   rw[Gr,hy,Option.bind_some,if_pos h0]
theorem I0 {n:Nat} {w:W7} (h:WB n w):∀ s,s∈gh w->s.numbers.length<=n:=λs hs=>by
 obtain ⟨k,_,hk⟩:=List.mem_filterMap.1 hs
 exact (h.nums k s hk).1
theorem LA {n:Nat} {w:W7} (h:WB n w):(gh w).length<=n:=Nat.le_trans (List.length_filterMap_le ..) h.added
abbrev nm (b:Bk):O Int:=b.aN.map (·.id)
structure qB (n:Nat) (w:W7) (b:Bk):Prop where
 wb:WB n w
 bb:BB n b
 ids:(nm b).Nodup
 RF:w.2.1.Pairwise (· < ·)
 mem:∀ k,k∈w.2.1↔k∈nm b
 ev:∀ k,(aO w.2.2.2.2.1 k).getD false=true↔k∈nm b
 look:∀ s,s∈b.aN->aO w.2.2.2.1 s.id=if s.id∈b.ended then none else some s
 keys:∀ k,k ∉ nm b->aO w.2.2.2.1 k=none
 Q0:∀ k,k∈nm b->1<=k/\k<=9999
 LB:b.ended.Nodup
 I1:∀ k,k∈b.ended->k∈nm b
 num:∀ s s' x,s∈b.aN->s'∈b.aN->x∈s.numbers->x∈s'.numbers->s.id=s'.id
 ne:∀ s,s∈b.aN->[] ∉ s.numbers
 acc:∀ s,s∈b.aN->1<=s.aH/\s.aH<=9999
theorem VK:qB 0 w0 b0:=⟨XJ,VJ,by simp[nm,b0],by simp[w0],λk=>by simp[w0,b0],λk=>by simp[w0,b0,aO],λs h=>by simp[b0] at h,λk _=>by simp[w0,aO],λk h=>by simp[b0] at h,by simp[b0],λk h=>by simp[b0] at h,λs s' x h=>by simp[b0] at h,λs h=>by simp[b0] at h,λs h=>by simp[b0] at h⟩
theorem HG (f:Sub->Int) (y:Sub):∀ (l:O Sub) (i:Nat),i<l.length->f y=f (nth l i)->(l.set i y).map f=l.map f
 | [],i,h,_=>by simp at h
 | a::l,0,_,h=>by rw[mD] at h;simp[h]
 | a::l,i+1,h,hy=>by
  rw[mC] at hy
  rw[List.set_cons_succ,List.map_cons,List.map_cons,HG f y l i (by rw[List.length_cons] at h;omega) hy]
theorem HH (y:Sub):∀ (l:O Sub) (i:Nat),i<l.length->(l.map (·.id)).Nodup->y.id=(nth l i).id->∀ s,s∈l.set i y->s=y∨(s∈l/\s.id≠y.id)
 | [],i,h,_,_,_,_=>by simp at h
 | a::l,0,_,hn,h,s,hs=>by
  rw[mD] at h
  rw[List.set_cons_zero,List.mem_cons] at hs
  rw[List.map_cons,List.nodup_cons] at hn
  rcases hs with hs|hs
  ·exact .inl hs
  ·exact .inr ⟨List.mem_cons_of_mem _ hs,λe=>hn.1 (by rw[←h,←e];exact List.mem_map_of_mem hs)⟩
 | a::l,i+1,h,hn,hy,s,hs=>by
  rw[mC] at hy
  rw[List.length_cons] at h
  rw[List.set_cons_succ,List.mem_cons] at hs
  rw[List.map_cons,List.nodup_cons] at hn
  rcases hs with rfl|hs
  ·exact .inr ⟨List.mem_cons_self ..,λe=>hn.1 (by rw[e,hy];exact List.mem_map_of_mem (te (by omega)))⟩
  ·rcases HH y l i (by omega) hn.2 hy s hs with h1|⟨h1,h2⟩
   ·exact .inl h1
   ·exact .inr ⟨List.mem_cons_of_mem _ h1,h2⟩
theorem Q1 (s:Sub) (e:Event):(Lw s e).id=s.id:=by
 unfold Lw;repeat' split
 all_goals rfl
theorem Q2 (s:Sub) (e:Event):(CS s e).id=s.id:=by
 unfold CS;split
 ·rfl
 ·exact Q1 s e
theorem NI (s:Sub) (e:Event):(CS s e).aH=s.aH:=by
 unfold CS Lw;repeat' split
 all_goals rfl
theorem NJ (x z:O uA) (l:O (O uA)) (h:z∈CC x l):z∈l:=(List.mem_filter.1 h).1
theorem zt (s:Sub) (e:Event):∀ x,x∈(CS s e).numbers->(e.kind=5/\x=e.number)∨x∈s.numbers:=λx hx=>by
 unfold CS Lw at hx
 repeat' split at hx
 all_goals first|(simp at hx;done)|exact .inr hx|skip
 ·rename_i k5
  rcases (xB _ _ _ _).1 hx with h|h
  ·exact .inl ⟨k5,h⟩
  ·exact .inr h
 ·exact .inr (NJ _ _ _ hx)
theorem tf (b:Bk) (k:Int):(fY b k=-1/\k ∉ nm b)∨(0<=fY b k/\fY b k<(b.aN.length:Int)/\(nth b.aN (fY b k).toNat).id=k):=by
 rcases nT (λa:Sub=>a.id==k) b.aN 0 (by omega) with ⟨q,h⟩|⟨q1,q2,q3⟩
 ·refine .inl ⟨q,λhm=>?_⟩
  obtain ⟨s,h1,h2⟩:=List.mem_map.1 hm
  have:=h s h1
  simp[h2] at this
 ·refine .inr ⟨q1,by unfold fY;omega,?_⟩
  rw[show (oU (λa:Sub=>a.id==k) b.aN 0-0).toNat=(fY b k).toNat from by unfold fY;omega] at q3
  simpa using q3
theorem HJ (x:Int):∀ (l:O Int),l.Pairwise (· < ·)->x ∉ l->(rW Lr x l).Pairwise (· < ·)
 | [],_,_=>by simp[rW]
 | y::t,h,hx=>by
  rw[List.pairwise_cons] at h
  rw[List.mem_cons,not_or] at hx
  unfold rW
  by_cases hy:Lr y x=true
  ·rw[if_pos hy,List.pairwise_cons]
   refine ⟨λz hz=>?_,HJ x t h.2 hx.2⟩
   rcases (xB _ _ _ _).1 hz with rfl|hz
   ·simpa [Lr] using hy
   ·exact h.1 z hz
  ·rw[if_neg hy,List.pairwise_cons,List.pairwise_cons]
   have cd:x<y:=by simp[Lr] at hy;omega
   refine ⟨λz hz=>?_,h⟩
   rcases List.mem_cons.1 hz with rfl|hz
   ·exact cd
   ·have:=h.1 z hz;omega
theorem qB.up {n:Nat} {w:W7} {b:Bk} (h:qB n w b):qB (n+1) w b:={ h with wb:=h.wb.up,bb:=h.bb.up }
theorem qB.find {n:Nat} {w:W7} {b:Bk} (h:qB n w b) {s s':Sub} (hs:s∈b.aN) (v9:s'∈b.aN) (e:s.id=s'.id):s=s':=by
 have key:∀ (l:O Sub),(l.map (·.id)).Nodup->s∈l->s'∈l->s=s':=by
  intro l
  induction l with
  | nil=>intro _ h;simp at h
  | cons a l ih =>
   intro hn h1 h2
   rw[List.map_cons,List.nodup_cons] at hn
   rcases List.mem_cons.1 h1 with h3|h3
   ·rcases List.mem_cons.1 h2 with h4|h4
    ·rw[h3,h4]
    ·exact absurd (by rw[←h3,e];exact List.mem_map_of_mem h4) hn.1
   ·rcases List.mem_cons.1 h2 with h4|h4
    ·exact absurd (by rw[←h4,←e];exact List.mem_map_of_mem h3) hn.1
    ·exact ih hn.2 h3 h4
 exact key _ h.ids hs v9
theorem LC (n:Nat) (w:W7) (b:Bk) (e:Event) (last:Int) (h:qB n w b) (hn:n<=10000) (f:xD b e last):∃ w' b',VF e w=some w'/\dQ b e=some b'/\qB (n+1) w' b':=by
 obtain ⟨w',e1,hw,ea,es,ee⟩:=Nz n e w h.wb hn
 obtain ⟨b',e2,hb,bs,be⟩:=CF b e last n h.bb hn f
 refine ⟨w',b',e1,e2,?_⟩
 by_cases k0:e.kind=1∨e.kind=2∨e.kind=14∨e.kind=15
 ·have n3:¬e.kind=3:=by omega
  have n4:¬e.kind=4:=by omega
  unfold Gm at ea;rw[if_neg (λk=>n3 k.1)] at ea
  unfold Ax at es;rw[if_neg n3,if_neg n4,if_pos k0] at es
  unfold Tt at ee;rw[if_neg n3] at ee
  unfold Ly at bs;rw[if_neg n3,if_pos k0] at bs
  unfold IZ at be;rw[if_neg n4] at be
  have hi:nm b'=nm b:=by unfold nm;rw[bs]
  exact ⟨hw,hb,by rw[hi];exact h.ids,by rw[ea];exact h.RF,by rw[ea,hi];exact h.mem,by rw[ee,hi];exact h.ev,by rw[es,bs,be];exact h.look,by rw[es,hi];exact h.keys,by rw[hi];exact h.Q0,by rw[be];exact h.LB,by rw[be,hi];exact h.I1,by rw[bs];exact h.num,by rw[bs];exact h.ne,by rw[bs];exact h.acc⟩
 by_cases k3:e.kind=3
 ·have n4:¬e.kind=4:=by omega
  have CA:=f.add k3
  have Tv:e.sub ∉ nm b:=by
   rcases tf b e.sub with ⟨_,q⟩|⟨q,_⟩
   ·exact q
   ·omega
  have hr:=f.form.sub k0
  have RY:(aO w.2.2.2.2.1 e.sub).getD false=false:=by
   cases hh:(aO w.2.2.2.2.1 e.sub).getD false with
   | false=>rfl
   | true=>exact absurd ((h.ev _).1 hh) Tv
  unfold Gm at ea;rw[if_pos ⟨k3,RY⟩] at ea
  unfold Ax at es;rw[if_pos k3] at es
  unfold Tt at ee;rw[if_pos k3] at ee
  unfold Ly at bs;rw[if_pos k3] at bs
  unfold IZ at be;rw[if_neg n4] at be
  have hi:nm b'=nm b++[e.sub]:=by unfold nm;rw[bs,List.map_append];rfl
  have dq:e.sub ∉ b.ended:=λk=>Tv (h.I1 _ k)
  refine ⟨hw,hb,?_,?_,?_,?_,?_,?_,?_,?_,?_,?_,?_,?_⟩
  ·rw[hi,List.nodup_append]
   exact ⟨h.ids,by simp,λa ha c hc=>by rw[List.mem_singleton.1 hc];exact λq=>Tv (q▸ha)⟩
  ·rw[ea];exact HJ _ _ h.RF (λk=>Tv ((h.mem _).1 k))
  ·intro k;rw[ea,xB,hi,List.mem_append,List.mem_singleton,h.mem k];exact Or.comm
  ·intro k
   rw[ee,gA,hi,List.mem_append,List.mem_singleton]
   by_cases hk:k=e.sub
   ·simp[hk]
   ·rw[if_neg (by simpa using hk),h.ev k];simp[hk]
  ·intro s hs
   rw[bs,List.mem_append,List.mem_singleton] at hs
   rw[es,be,gA]
   rcases hs with hs|rfl
   ·have:s.id≠e.sub:=λq=>Tv (by rw[←q];exact List.mem_map_of_mem hs)
    rw[if_neg (by simpa using this)];exact h.look s hs
   ·rw[if_pos (by simp[sO]),if_neg (by simpa [sO] using dq)]
  ·intro k hk
   rw[hi,List.mem_append,List.mem_singleton,not_or] at hk
   rw[es,gA,if_neg (by simpa using hk.2)];exact h.keys k hk.1
  ·intro k hk
   rw[hi,List.mem_append,List.mem_singleton] at hk
   rcases hk with hk|rfl
   ·exact h.Q0 k hk
   ·exact hr
  ·rw[be];exact h.LB
  ·intro k hk
   rw[be] at hk
   rw[hi,List.mem_append];exact .inl (h.I1 k hk)
  ·intro s s' x hs v9 hx g4
   rw[bs,List.mem_append,List.mem_singleton] at hs v9
   rcases hs with hs|rfl
   ·rcases v9 with v9|rfl
    ·exact h.num s s' x hs v9 hx g4
    ·simp[sO] at g4
   ·simp[sO] at hx
  ·intro s hs
   rw[bs,List.mem_append,List.mem_singleton] at hs
   rcases hs with hs|rfl
   ·exact h.ne s hs
   ·simp[sO]
  ·intro s hs
   rw[bs,List.mem_append,List.mem_singleton] at hs
   rcases hs with hs|rfl
   ·exact h.acc s hs
   ·exact f.form.VG k3
 obtain ⟨⟨s0,s1⟩,dq,h5⟩:=f.sub (by omega)
 have hid:(nth b.aN (fY b e.sub).toNat).id=e.sub:=by
  rcases tf b e.sub with ⟨q,_⟩|⟨_,_,q⟩
  ·omega
  ·exact q
 have LD:nth b.aN (fY b e.sub).toNat∈b.aN:=te (by omega)
 have cd:(fY b e.sub).toNat<b.aN.length:=by omega
 generalize om:(fY b e.sub).toNat=i at hid LD cd
 generalize Mx:nth b.aN i=s at hid LD
 unfold Gm at ea;rw[if_neg (λk=>k3 k.1)] at ea
 unfold Tt at ee;rw[if_neg k3] at ee
 unfold Ly at bs;rw[if_neg k3,if_neg k0,om,Mx] at bs
 have nZ:(CS s e).id=s.id:=Q2 s e
 have hi:nm b'=nm b:=by unfold nm;rw[bs];exact HG _ _ _ _ cd (by rw[Mx];exact nZ)
 have sa:∀ z,z∈b'.aN->z=CS s e∨(z∈b.aN/\z.id≠e.sub):=λz hz=>by
  rw[bs] at hz
  have:=HH _ _ _ cd h.ids (by rw[Mx];exact nZ) z hz
  rwa [nZ,hid] at this
 have Tw:∀ z z' x,z∈b'.aN->z'∈b'.aN->x∈z.numbers->x∈z'.numbers->z.id=z'.id:=λz z' x hz wY hx g4=>by
  rcases sa z hz with rfl|⟨hz,Tx⟩
  ·rcases sa z' wY with rfl|⟨wY,VL⟩
   ·rfl
   ·rcases zt s e x hx with ⟨k5,rfl⟩|hx
    ·exact absurd g4 (h5 k5 z' wY)
    ·rw[nZ];exact h.num s z' x LD wY hx g4
  ·rcases sa z' wY with rfl|⟨wY,VL⟩
   ·rcases zt s e x g4 with ⟨k5,rfl⟩|g4
    ·exact absurd hx (h5 k5 z hz)
    ·rw[nZ];exact h.num z s x hz LD hx g4
   ·exact h.num z z' x hz wY hx g4
 have mG:∀ z,z∈b'.aN->[] ∉ z.numbers:=λz hz hx=>by
  rcases sa z hz with rfl|⟨hz,_⟩
  ·rcases zt s e [] hx with ⟨k5,hx⟩|hx
   ·exact f.form.num k5 hx.symm
   ·exact h.ne s LD hx
  ·exact h.ne z hz hx
 have O9:∀ z,z∈b'.aN->1<=z.aH/\z.aH<=9999:=λz hz=>by
  rcases sa z hz with rfl|⟨hz,_⟩
  ·rw[NI];exact h.acc s LD
  ·exact h.acc z hz
 have Gl:e.sub∈nm b:=by rw[←hid];exact List.mem_map_of_mem LD
 by_cases k4:e.kind=4
 ·unfold Ax at es;rw[if_neg k3,if_pos k4] at es
  unfold IZ at be;rw[if_pos k4] at be
  refine ⟨hw,hb,by rw[hi];exact h.ids,by rw[ea];exact h.RF,by rw[ea,hi];exact h.mem,by rw[ee,hi];exact h.ev,?_,?_,by rw[hi];exact h.Q0,?_,?_,Tw,mG,O9⟩
  ·intro z hz
   rw[es,be,nM _ _ h.wb.keys]
   rcases sa z hz with rfl|⟨hz,Tx⟩
   ·rw[nZ,hid,if_pos (by simp),if_pos (by simp)]
   ·rw[if_neg (by simpa using Tx),h.look z hz]
    simp[Tx]
  ·intro k hk
   rw[hi] at hk
   rw[es,nM _ _ h.wb.keys]
   split
   ·rfl
   ·exact h.keys k hk
  ·rw[be,List.nodup_append]
   exact ⟨h.LB,by simp,λa ha c hc=>by rw[List.mem_singleton.1 hc];exact λq=>dq (q▸ha)⟩
  ·intro k hk
   rw[be,List.mem_append,List.mem_singleton] at hk
   rw[hi]
   rcases hk with hk|rfl
   ·exact h.I1 k hk
   ·exact Gl
 ·unfold Ax at es;rw[if_neg k3,if_neg k4,if_neg k0] at es
  unfold IZ at be;rw[if_neg k4] at be
  have hl:=h.look s LD
  rw[hid,if_neg dq] at hl
  rw[hl] at es
  simp only at es
  have JB:CS s e=Lw s e:=by unfold CS;rw[if_neg k4]
  refine ⟨hw,hb,by rw[hi];exact h.ids,by rw[ea];exact h.RF,by rw[ea,hi];exact h.mem,by rw[ee,hi];exact h.ev,?_,?_,by rw[hi];exact h.Q0,by rw[be];exact h.LB,by rw[be,hi];exact h.I1,Tw,mG,O9⟩
  ·intro z hz
   rw[es,be,gA]
   rcases sa z hz with rfl|⟨hz,Tx⟩
   ·rw[nZ,hid,if_pos (by simp),if_neg dq,JB]
   ·rw[if_neg (by simpa using Tx)];exact h.look z hz
  ·intro k hk
   rw[hi] at hk
   have:k≠e.sub:=λq=>hk (q▸Gl)
   rw[es,gA,if_neg (by simpa using this)];exact h.keys k hk
def Ft (t:Int):List Event->Bk->Option Bk
 | [],b=>some b
 | e::l,b=>if e.at_<=t then (dQ b e).bind (Ft t l) else Ft t l b
theorem ED:∀ (l:O Event) (b:Bk) (last:Int),VC b last l->∀ e,e∈l->last<=e.at_
 | [],_,_,_,e,h=>by simp at h
 | a::l,b,last,h,e,he=>by
  obtain ⟨f,b',_,hv⟩:=h
  have h1:=f.form.at_
  rcases List.mem_cons.1 he with rfl|he
  ·exact h1
  ·have:=ED l b' a.at_ hv e he
   omega
theorem EE (t:Int) (w:W7) (b:Bk):∀ (l:O Event),(∀ e,e∈l->t<e.at_)->O7 t l w=some w/\Ft t l b=some b
 | [],_=>⟨rfl,rfl⟩
 | e::l,h=>by
  have he:=h e (List.mem_cons_self ..)
  rw[O7,if_neg (by omega),Ft,if_neg (by omega)]
  exact EE t w b l λz hz=>h z (List.mem_cons_of_mem _ hz)
theorem LF {n m:Nat} {w:W7} {b:Bk} (h:qB n w b) (hm:n<=m):qB m w b:=by
 induction m with
 | zero=>rwa [show n=0 from by omega] at h
 | succ m ih =>
  by_cases e:n=m+1
  ·rwa [e] at h
  ·exact (ih (by omega)).up
theorem HK (t:Int):∀ (l:O Event) (n:Nat) (w:W7) (b:Bk) (last:Int),qB n w b->n+l.length<=10000->VC b last l->∃ w' b',O7 t l w=some w'/\Ft t l b=some b'/\qB (n+l.length) w' b'
 | [],n,w,b,_,h,_,_=>⟨w,b,rfl,rfl,h⟩
 | e::l,n,w,b,last,h,hn,hv=>by
  have UC:=hv
  obtain ⟨f,b1,Jz,hv⟩:=hv
  rw[List.length_cons] at hn ⊢
  by_cases ht:e.at_<=t
  ·obtain ⟨w',b',e1,e2,hi⟩:=LC n w b e last h (by omega) f
   rw[Jz] at e2;cases e2
   obtain ⟨w2,b2,q1,q2,q3⟩:=HK t l (n+1) w' b1 e.at_ hi (by omega) hv
   refine ⟨w2,b2,?_,?_,?_⟩
   ·rw[O7,if_pos ht,e1];exact q1
   ·rw[Ft,if_pos ht,Jz];exact q2
   ·rw[show n+(l.length+1)=n+1+l.length from by omega];exact q3
  ·have hs:∀ z,z∈e::l->t<z.at_:=λz hz=>by
    rcases List.mem_cons.1 hz with rfl|hz
    ·omega
    ·have:=ED l b1 e.at_ hv z hz;omega
   obtain ⟨q1,q2⟩:=EE t w b _ hs
   exact ⟨w,b,q1,q2,LF h (by omega)⟩
theorem LG (cb:O Event) (t:Int) (b:Bk) (hl:cb.length<=10000) (h:Ft t cb b0=some b):l9 cb t=some b:=by
 unfold l9
 rw[←h]
 refine bL (step:=λs:Int×O aw×O Sub×O Int=>jK cb t s.1 s.2.1 s.2.2.1 s.2.2.2) cb (λs=>s.1) (λs r=>Ft t r ⟨s.2.1,s.2.2.1,s.2.2.2⟩) (λs r=>0<=s.1/\Ft t r ⟨s.2.1,s.2.2.1,s.2.2.2⟩=some b) (by omega) ?_ ?_ (s:=(0,[],[],[])) rfl ⟨by simp,h⟩
 ·rintro ⟨i,a,s,en⟩ ⟨h1,_⟩ h2
  simp only at h1 h2
  refine ⟨_,?_,rfl⟩
  unfold jK
  rw[if_neg (by simp only[decide_eq_true_eq];omega)]
 ·rintro ⟨i,a,s,en⟩ e r ⟨h1,h2⟩ h3 h4 h5 h6
  simp only at h1 h2 h3 h4 h5 h6
  unfold jK
  simp only
  rw[if_pos (by simpa using h4),ae ⟨h3,h4⟩,h5]
  rw[Ft] at h2 ⊢
  by_cases ha:e.at_<=t
  ·rw[if_pos ha] at h2 ⊢
   rw[if_pos (by simpa using ha),ae ⟨h3,h4⟩]
   cases hb:dQ ⟨a,s,en⟩ e with
   | none=>rw[hb] at h2;cases h2
   | some b' =>
    rw[hb] at h2
    rw[Option.bind_some,ae ⟨by omega,by omega⟩]
    exact .inr ⟨(i+1,b'.au,b'.aN,b'.ended),rfl,⟨by simp only;omega,h2⟩,rfl,rfl⟩
  ·rw[if_neg ha] at h2 ⊢
   rw[if_neg (by simpa using ha),ae ⟨by omega,by omega⟩]
   exact .inr ⟨(i+1,a,s,en),rfl,⟨by simp only;omega,h2⟩,rfl,rfl⟩
theorem Bj:∀ (l m:O Int),l.Nodup->(∀ k,k∈l->k∈m)->l.length<=m.length
 | [],m,_,_=>by simp
 | a::l,m,hn,h=>by
  rw[List.nodup_cons] at hn
  have ha:=h a (List.mem_cons_self ..)
  have:=Bj l (m.erase a) hn.2 (λk hk=>(List.mem_erase_of_ne (λq=>hn.1 (by rw[←q];exact hk))).2 (h k (List.mem_cons_of_mem _ hk)))
  rw[List.length_erase_of_mem ha] at this
  have:=List.length_pos_of_mem ha
  rw[List.length_cons];omega
section state
variable {n:Nat} {w:W7} {b:Bk}
theorem qB.HL (h:qB n w b) {k:Int} {s:Sub} (hs:aO w.2.2.2.1 k=some s):s∈b.aN/\s.id=k/\k ∉ b.ended:=by
 by_cases hk:k∈nm b
 ·obtain ⟨z,h1,h2⟩:=List.mem_map.1 hk
  have:=h.look z h1
  rw[h2,hs] at this
  split at this
  ·cases this
  ·cases this
   exact ⟨h1,h2,by assumption⟩
 ·rw[h.keys k hk] at hs;cases hs
theorem qB.I2 (h:qB n w b) {k:Int} (hk:k∈nm b) (he:k ∉ b.ended):∃ s,aO w.2.2.2.1 k=some s/\s∈b.aN/\s.id=k:=by
 obtain ⟨z,h1,h2⟩:=List.mem_map.1 hk
 have:=h.look z h1
 rw[h2,if_neg he] at this
 exact ⟨z,this,h1,h2⟩
theorem qB.Bl (h:qB n w b) {k:Int} (he:k∈b.ended):aO w.2.2.2.1 k=none:=by
 cases hs:aO w.2.2.2.1 k with
 | none=>rfl
 | some s=>exact absurd he (h.HL hs).2.2
theorem qB.EF (h:qB n w b):∀ (l:O Int),(∀ k,k∈l->k∈nm b)->(l.filterMap (aO w.2.2.2.1)).map (·.id)=l.filter λk=>decide (k ∉ b.ended)
 | [],_=>rfl
 | k::l,hl=>by
  have ih:=qB.EF h l λz hz=>hl z (List.mem_cons_of_mem _ hz)
  by_cases he:k∈b.ended
  ·rw[List.filterMap_cons,h.Bl he,List.filter_cons,if_neg (by simpa using he)];exact ih
  ·obtain ⟨s,h1,_,h3⟩:=h.I2 (hl k (List.mem_cons_self ..)) he
   rw[List.filterMap_cons,h1,List.filter_cons,if_pos (by simpa using he),List.map_cons,ih,h3]
theorem qB.CG (h:qB n w b):(gh w).map (·.id)=w.2.1.filter λk=>decide (k ∉ b.ended):=h.EF _ λk hk=>(h.mem k).1 hk
theorem qB.VM (h:qB n w b):w.2.1.Nodup:=h.RF.imp λh=>by omega
theorem qB.Pb (h:qB n w b):((gh w).map (·.id)).Nodup:=by rw[h.CG];exact List.Pairwise.filter _ h.VM
theorem qB.sP (h:qB n w b) {s:Sub} (hs:s∈gh w):s∈b.aN/\s.id ∉ b.ended:=by
 obtain ⟨k,_,hk⟩:=List.mem_filterMap.1 hs
 obtain ⟨h1,h2,h3⟩:=h.HL hk
 exact ⟨h1,by rw[h2];exact h3⟩
theorem qB.count (h:qB n w b):(gh w).length+b.ended.length<=b.aN.length:=by
 have:=Bj ((gh w).map (·.id)++b.ended) (nm b) (by
  rw[List.nodup_append]
  refine ⟨h.Pb,h.LB,λa ha c hc=>?_⟩
  rw[h.CG,List.mem_filter] at ha
  intro q
  have:=ha.2
  simp at this
  exact this (q▸hc)) (λk hk=>by
  rcases List.mem_append.1 hk with hk|hk
  ·rw[h.CG,List.mem_filter] at hk;exact (h.mem k).1 hk.1
  ·exact h.I1 k hk)
 simpa [nm] using this
theorem filter_lt:∀ (l:O Int) (k:Int),l.Pairwise (· < ·)->l.filter (λz=>decide (z<k+1))=l.filter (λz=>decide (z<k))++if k∈l then [k] else []
 | [],k,_=>rfl
 | a::l,k,h=>by
  rw[List.pairwise_cons] at h
  have ih:=filter_lt l k h.2
  by_cases h1:a<k
  ·rw[List.filter_cons,if_pos (by simp;omega),List.filter_cons,if_pos (by simp;omega),ih,List.cons_append]
   have:(k∈a::l)=(k∈l):=by simp;intro q;omega
   simp only[this]
  ·have hz:∀ z,z∈l->¬z<k:=λz hz=>by have:=h.1 z hz;omega
   have e1:l.filter (λz=>decide (z<k))=[]:=List.filter_eq_nil_iff.2 λz wY=>by simpa using hz z wY
   by_cases h2:a=k
   ·have e2:l.filter (λz=>decide (z<k+1))=[]:=List.filter_eq_nil_iff.2 λz wY=>by have:=h.1 z wY;simp;omega
    rw[List.filter_cons,if_pos (by simp;omega),List.filter_cons,if_neg (by simp;omega),e1,e2,h2,if_pos (List.mem_cons_self ..)];rfl
   ·have hk:k ∉ l:=λq=>hz k q (by have:=h.1 k q;omega)
    rw[List.filter_cons,if_neg (by simp;omega),List.filter_cons,if_neg (by simp;omega),ih]
    have:k ∉ a::l:=by simp;exact ⟨λq=>h2 q.symm,hk⟩
    rw[if_neg hk,if_neg this]
theorem Q3 (b:Bk) (L:O Sub) (h1:b.au.length<=100000) (h2:L.length<=100000):∃ a,fV b L=some ⟨a,L⟩:=by
 unfold fV
 have:=ka (step:=λs:Int×O aw=>ln b L s.1 s.2) (λc=>c.aN=L) (λs=>1<=s.1/\s.1<=10000/\s.2.length<=100000) (λs=>(10000-s.1).toNat) ?_ (s:=(1,[])) ⟨by omega,by omega,by simp⟩ (by omega)
 ·obtain ⟨c,hc,e⟩:=this
  exact ⟨c.au,by rw[hc,←e]⟩
 rintro ⟨k,a⟩ ⟨k1,k2,k3⟩
 simp only at k1 k2 k3
 unfold ln
 by_cases c:k<=9999/\(a.length:Int)<(b.au.length:Int)
 ·rw[if_pos (by simpa using c),wo b k (by omega),Option.bind_some]
  split
  ·rw[ae ⟨by omega,by omega⟩]
   exact .inr ⟨(k+1,a),rfl,⟨by simp only;omega,by simp only;omega,k3⟩,by simp only;omega⟩
  ·rename_i hn
   have sp:0<=oU (λa:aw=>a.id==k) b.au 0/\oU (λa:aw=>a.id==k) b.au 0<(b.au.length:Int):=by
    simp at hn
    rcases nT (λa:aw=>a.id==k) b.au 0 (by omega) with ⟨q,_⟩|⟨q1,q2,_⟩
    ·omega
    ·omega
   rw[ae sp]
   generalize oU (λa:aw=>a.id==k) b.au 0=y
   have:=ka (step:=λs:Int×O Int=>ll b L k a y s.1 s.2) (λr=>∃ x,r=.inl (k+1,a++[x])) (λs=>0<=s.1/\s.1<=(L.length:Int)/\(s.2.length:Int)<=s.1) (λs=>((L.length:Int) - s.1).toNat) ?_ (s:=(0,[])) ⟨by simp,by simp,by simp⟩ (by simp;omega)
   ·obtain ⟨r,hr,x,rfl⟩:=this
    exact .inr ⟨(k+1,a++[x]),hr,⟨by simp only;omega,by simp only;omega,by simp only[List.length_append,List.length_singleton];omega⟩,by simp only;omega⟩
   rintro ⟨i,o⟩ ⟨i1,i2,i3⟩
   simp only at i1 i2 i3
   unfold ll
   by_cases hi:i<(L.length:Int)
   ·rw[if_pos (by simpa using hi),ae ⟨i1,hi⟩]
    split
    ·rw[ae ⟨i1,hi⟩,ae (by simp only[List.length_singleton];omega),ae ⟨by omega,by omega⟩]
     exact .inr ⟨(i+1,o++[(nth L i.toNat).id]),rfl,⟨by simp only;omega,by simp only;omega,by simp only[List.length_append,List.length_singleton];omega⟩,by simp only;omega⟩
    ·rw[ae ⟨by omega,by omega⟩]
     exact .inr ⟨(i+1,o),rfl,⟨by simp only;omega,by simp only;omega,by simp only;omega⟩,by simp only;omega⟩
   ·rw[if_neg (by simpa using hi)]
    unfold iJ
    rw[ae (by simp only[List.length_singleton];omega),ae ⟨by omega,by omega⟩]
    exact .inl ⟨_,rfl,_,rfl⟩
 ·rw[if_neg (by simpa using c)]
  exact .inl ⟨_,rfl,rfl⟩
theorem LH (cb:O Event) (t:Int) (hl:cb.length<=10000) (hu:Ft t cb b0=some b) (h:qB n w b) (hn:n<=10000):∃ a,mW cb t=some ⟨a,gh w⟩:=by
 unfold mW
 rw[LG cb t b hl hu,Option.bind_some]
 have hs:=h.bb.aN
 have ha:=h.bb.Gn
 have he:=h.bb.ended
 have hc:=h.count
 let A:Int->O Sub:=λk=>(w.2.1.filter λz=>decide (z<k)).filterMap (aO w.2.2.2.1)
 have sub:∀ k,(A k).Sublist (gh w):=λk=>List.Sublist.filterMap _ (List.filter_sublist ..)
 have VN:∀ k,(A k).length<=(gh w).length:=λk=>(sub k).length_le
 have:=ka (step:=λs:Int×O Sub=>lq b s.1 s.2) (λc=>c.aN=gh w) (λs=>1<=s.1/\s.1<=10000/\s.2=A s.1) (λs=>(10000-s.1).toNat) ?_ (s:=(1,[])) ⟨by omega,by omega,?_⟩ (by omega)
 ·obtain ⟨c,hc,e⟩:=this
  exact ⟨c.au,by rw[hc,←e]⟩
 ·rintro ⟨k,l⟩ ⟨k1,k2,k3⟩
  simp only at k1 k2 k3
  subst k3
  have Yr:=VN k
  unfold lq
  rw[ae (λ_=>⟨by omega,by omega⟩)]
  by_cases c:k<=9999/\((A k).length:Int)<(b.aN.length:Int) - (b.ended.length:Int)
  ·rw[if_pos (by simpa using c),zp b k (by omega),Option.bind_some,xC b k (by omega),qs,Option.bind_some]
   have hA:A (k+1)=A k++(if k∈w.2.1 then [k] else []).filterMap (aO w.2.2.2.1):=by
    show (w.2.1.filter λz=>decide (z<k+1)).filterMap _=_
    rw[filter_lt _ _ h.RF,List.filterMap_append]
   rcases tf b k with ⟨q1,q2⟩|⟨q1,q2,q3⟩
   ·rw[q1]
    simp only[show decide ((-1:Int)>=0)=false from rfl,Bool.false_and,Bool.false_eq_true,if_false]
    rw[ae ⟨by omega,by omega⟩]
    refine .inr ⟨(k+1,A k),rfl,⟨by simp only;omega,by simp only;omega,?_⟩,by simp only;omega⟩
    simp only
    rw[hA,if_neg (λm=>q2 ((h.mem k).1 m))];simp
   ·have d1:decide (fY b k>=0)=true:=by simpa using q1
    have hm:nth b.aN (fY b k).toNat∈b.aN:=te (by omega)
    have hk:k∈nm b:=by rw[←q3];exact List.mem_map_of_mem hm
    rw[if_pos ((h.mem k).2 hk)] at hA
    simp only[d1,if_true,Bool.true_and]
    by_cases GN:k∈b.ended
    ·simp only[GN,decide_true,Bool.not_true,Bool.false_eq_true,if_false]
     rw[ae ⟨by omega,by omega⟩]
     refine .inr ⟨(k+1,A k),rfl,⟨by simp only;omega,by simp only;omega,?_⟩,by simp only;omega⟩
     simp only
     rw[hA,List.filterMap_cons,h.Bl GN];simp
    ·simp only[GN,decide_false,Bool.not_false,if_true]
     rw[ae ⟨q1,q2⟩,ae (by simp only[List.length_singleton];omega),ae ⟨by omega,by omega⟩]
     refine .inr ⟨(k+1,A k++[nth b.aN (fY b k).toNat]),rfl,⟨by simp only;omega,by simp only;omega,?_⟩,by simp only;omega⟩
     simp only
     have hl:=h.look _ hm
     rw[q3,if_neg GN] at hl
     rw[hA,List.filterMap_cons,hl];simp
  ·rw[if_neg (by simpa using c)]
   obtain ⟨a,ha⟩:=Q3 b (A k) (by omega) (by omega)
   rw[ha]
   refine .inl ⟨_,rfl,?_⟩
   simp only
   by_cases hk:k<=9999
   ·exact (sub k).eq_of_length_le (by omega)
   ·show (w.2.1.filter λz=>decide (z<k)).filterMap _=_
    rw[List.filter_eq_self.2 λz hz=>by have:=h.Q0 z ((h.mem z).1 hz);simp;omega]
    rfl
 ·show []=(w.2.1.filter λz=>decide (z<1)).filterMap _
  rw[List.filter_eq_nil_iff.2 λz hz=>by have:=h.Q0 z ((h.mem z).1 hz);simp;omega]
  rfl
end state
def xd (x:O uA) (L:O Sub):J Sub:=L.find? λs=>decide (x∈s.numbers)
theorem uz (id:Int) (x:O uA):∀ (ns:O (O uA)) (o:O ((O uA)×Int)),aO (ns.foldl (λo n=>fe o n id) o) x=if x∈ns then some id else aO o x
 | [],o=>by simp
 | a::ns,o=>by
  rw[List.foldl_cons,uz id x ns,gA]
  by_cases h:x∈ns
  ·rw[if_pos h,if_pos (List.mem_cons_of_mem _ h)]
  ·rw[if_neg h]
   by_cases h2:x=a
   ·rw[if_pos (by simpa using h2),if_pos (by rw[h2];exact List.mem_cons_self ..)]
   ·rw[if_neg (by simpa using h2),if_neg (by simp[h,h2])]
theorem EG (x:List uA):∀ (L:List Sub) (o:List ((List uA)×Int)),(∀ s s',s∈L->s'∈L->x∈s.numbers->x∈s'.numbers->s.id=s'.id)->aO (Ui L o) x=match xd x L with|some s=>some s.id|none=>aO o x
 | [],o,_=>rfl
 | s::l,o,h=>by
  have ih:=EG x l (s.numbers.foldl (λo n=>fe o n s.id) o) λa b ha hb=>h a b (List.mem_cons_of_mem _ ha) (List.mem_cons_of_mem _ hb)
  unfold Ui
  rw[ih]
  unfold xd
  rw[List.find?_cons]
  by_cases hx:x∈s.numbers
  ·rw[show decide (x∈s.numbers)=true from by simpa using hx]
   simp only
   cases hf:l.find? λs=>decide (x∈s.numbers) with
   | none=>simp only[uz,hx,if_true]
   | some s' =>
    have h1:=List.mem_of_find?_eq_some hf
    have h2:=List.find?_some hf
    simp only
    rw[h s s' (List.mem_cons_self ..) (List.mem_cons_of_mem _ h1) hx (by simpa using h2)]
  ·rw[show decide (x∈s.numbers)=false from by simpa using hx]
   simp only
   cases hf:l.find? λs=>decide (x∈s.numbers) with
   | none=>simp only[uz,hx,if_false]
   | some s'=>rfl
theorem EH:∀ (L:O Sub),(L.map (·.id)).Nodup->∀ s,s∈L->NA s.id L=(s,true)
 | [],_,s,h=>by simp at h
 | a::l,hn,s,h=>by
  rw[List.map_cons,List.nodup_cons] at hn
  unfold NA
  rcases List.mem_cons.1 h with rfl|h
  ·rw[if_pos rfl]
  ·rw[if_neg (λq=>hn.1 (by rw[q];exact List.mem_map_of_mem h))]
   exact EH l hn.2 s h
section state
variable {n:Nat} {w:W7} {b:Bk}
theorem qB.own (h:qB n w b) (x:List uA):IY (gh w) x=match xd x (gh w) with|some s=>(s,true)|none=>(Lv,false):=by
 unfold IY
 rw[EG x _ _ λs s' hs v9=>h.num s s' x (h.sP hs).1 (h.sP v9).1]
 cases hf:xd x (gh w) with
 | none=>simp[aO]
 | some s =>
  simp only
  exact EH _ h.Pb s (List.mem_of_find?_eq_some hf)
theorem LI (cb:List Event) (x:List uA) (t:Int) (hl:cb.length<=10000) (hu:Ft t cb b0=some b) (h:qB n w b) (hn:n<=10000):mX cb x t=some (match xd x (gh w) with|some s=>(s.id,true)|none=>(0,false)):=by
 unfold mX
 obtain ⟨a,ha⟩:=LH cb t hl hu h hn
 rw[ha,Option.bind_some]
 have hlen:=LA h.wb
 have VO:=I0 h.wb
 refine bL (step:=λs:Int=>iK x ⟨a,gh w⟩ s) (gh w) (λs=>s) (λs r=>some (match xd x r with|some s=>(s.id,true)|none=>(0,false))) (λs r=>0<=s/\∀ z,z∈r->z.numbers.length<=10000) (by omega) ?_ ?_ (s:=0) rfl ⟨by omega,λz hz=>by have:=VO z hz;omega⟩
 ·rintro i ⟨h1,_⟩ h2
  refine ⟨_,?_,rfl⟩
  unfold iK
  rw[if_neg (by simp only[decide_eq_true_eq];omega)]
  rfl
 ·rintro i s r ⟨h1,h2⟩ h3 h4 h5 h6
  have hs:=h2 s (List.mem_cons_self ..)
  unfold iK
  rw[if_pos (by simpa using h4),ae ⟨h3,h4⟩,h5,CE _ _ (by omega),Option.bind_some]
  by_cases hx:x∈s.numbers
  ·rw[if_pos (by simpa using hx),ae ⟨h3,h4⟩]
   refine .inl ⟨_,rfl,?_⟩
   unfold xd
   rw[List.find?_cons,show decide (x∈s.numbers)=true from by simpa using hx]
  ·rw[if_neg (by simpa using hx),ae ⟨by omega,by omega⟩]
   refine .inr ⟨i+1,rfl,⟨by omega,λz hz=>h2 z (List.mem_cons_of_mem _ hz)⟩,rfl,?_⟩
   unfold xd
   rw[List.find?_cons,show decide (x∈s.numbers)=false from by simpa using hx]
theorem Q4 (cb:O Event) (s:Sub) (t:Int) (hl:cb.length<=10000) (hu:Ft t cb b0=some b) (h:qB n w b) (hn:n<=10000) (hs:s∈gh w):ql cb s.id t=some (s,true):=by
 unfold ql
 have h1:=h.bb.aN
 have h2:=h.bb.ended
 obtain ⟨m,e⟩:=h.sP hs
 rw[LG cb t b hl hu,Option.bind_some,zp b _ (by omega),Option.bind_some,xC b _ (by omega),qs,Option.bind_some]
 rcases tf b s.id with ⟨_,q⟩|⟨q1,q2,q3⟩
 ·exact absurd (List.mem_map_of_mem m) q
 ·rw[show decide (fY b s.id<0)=false from by simp;omega,show decide (s.id∈b.ended)=false from by simpa using e]
  simp only[Bool.not_false,if_true,Bool.or_self,Bool.false_eq_true,if_false]
  rw[ae ⟨q1,q2⟩,h.find (te (by omega)) m q3]
theorem qB.Q5 (h:qB n w b):xd [] (gh w)=none:=by
 cases hf:xd [] (gh w) with
 | none=>rfl
 | some s =>
  have h1:=List.mem_of_find?_eq_some hf
  have h2:=List.find?_some hf
  exact absurd (by simpa using h2) (h.ne s (h.sP h1).1)
theorem HM (cb:O Event) (r:aa) (id:Int) (x:O uA) (hl:cb.length<=10000) (hu:Ft r.start cb b0=some b) (h:qB n w b) (hn:n<=10000) (hx:x=dL r) (e0:cr r=0) (p0:r.part=0):eY cb r id x=some (CD (gh w) r id):=by
 subst hx
 unfold eY CD
 rw[LI cb _ _ hl hu h hn,Option.bind_some,h.own,if_neg (show ¬(cr r≠0) from λk=>k e0),if_neg (show ¬(r.part≠0) from λk=>k p0)]
 cases hf:xd (dL r) (gh w) with
 | none=>simp[EB]
 | some s =>
  have hm:=List.mem_of_find?_eq_some hf
  simp only[Bool.not_true,Bool.false_or]
  by_cases hz:dL r=[]
  ·rw[hz,h.Q5] at hf;cases hf
  ·rw[if_neg (by simpa using hz),Q4 cb s _ hl hu h hn hm,Option.bind_some]
   simp only[Bool.true_eq_false,if_false]
   by_cases hc:s.aV=true/\r.aP=false
   ·rw[if_pos (by simp[hc]),if_pos hc];rfl
   ·rw[if_neg (by simpa using hc),if_neg hc]
theorem LJ (cb:O Event) (r:aa) (id:Int) (hl:cb.length<=10000) (hu:Ft r.start cb b0=some b) (h:qB n w b) (hn:n<=10000) (hs:Sm r):iL cb r id=some (CD (gh w) r id):=by
 unfold iL
 rw[zi r hs,Option.bind_some]
 by_cases h1:cr r=0
 ·rw[if_neg (by simpa using h1)]
  by_cases h2:r.part=0
  ·rw[if_neg (by simpa using h2)]
   split
   ·rename_i hi
    exact HM cb r id _ hl hu h hn (by unfold dL;rw[if_pos hi]) h1 h2
   ·rename_i hi
    exact HM cb r id _ hl hu h hn (by unfold dL;rw[if_neg hi]) h1 h2
  ·rw[if_pos (by simpa using h2)]
   unfold CD
   rw[if_neg (show ¬(cr r≠0) from λk=>k h1),if_pos h2];rfl
 ·rw[if_pos (by simpa using h1)]
  unfold CD
  rw[if_pos h1];rfl
end state
theorem HN (cb:O Event) (t:Int) (hl:cb.length<=40) (hv:VC b0 0 cb):∃ w b,O7 t cb w0=some w/\Ft t cb b0=some b/\qB cb.length w b:=by
 obtain ⟨w,b,h1,h2,h3⟩:=HK t cb 0 w0 b0 0 VK (by omega) hv
 rw[Nat.zero_add] at h3
 exact ⟨w,b,h1,h2,h3⟩
theorem I3 (r:aa) (h:cr r=0) (p:r.part=0):r.call=0/\r.last=false:=by
 unfold cr at h
 repeat' split at h
 all_goals first|omega|skip
 rename_i h8 _ _
 refine ⟨by omega,?_⟩
 cases hl:r.last with
 | false=>rfl
 | true=>exact absurd (.inr ⟨hl,p⟩) h8
def iT:List Range->Int
 | []=>0
 | r::l=>(r.qZ-r.from_+1)+iT l
def o5:List Head->Int
 | []=>0
 | h::l=>h.count+o5 l
theorem xE:∀ {l:O Range},(∀ r,r∈l->tq r)->0<=iT l/\iT l<=l.length*1000000000
 | [],_=>by simp[iT]
 | r::l,h=>by
  have h1:=h r (List.mem_cons_self ..)
  have h2:=xE λx hx=>h x (List.mem_cons_of_mem _ hx)
  unfold tq at h1
  rw[iT,List.length_cons]
  omega
theorem HO:∀ {l:O Head},(∀ r,r∈l->Gg r)->0<=o5 l/\o5 l<=l.length*5000
 | [],_=>by simp[o5]
 | r::l,h=>by
  have h1:=h r (List.mem_cons_self ..)
  have h2:=HO λx hx=>h x (List.mem_cons_of_mem _ hx)
  unfold Gg at h1
  rw[o5,List.length_cons]
  omega
theorem NK (l:O Range) (h:∀ r,r∈l->tq r) (hl:l.length<=1000000):jD l=some (iT l):=by
 unfold jD
 have:=bL (step:=λs:Int×Int=>fR l s.1 s.2) l (λs=>s.2) (λs t=>some (s.1+iT t)) (λs t=>(0<=s.1/\s.1+t.length*1000000000<=1000000*1000000000)/\∀ r,r∈t->tq r) (by omega) ?_ ?_ (s:=(0,0)) rfl ⟨by simp only;omega,h⟩
 ·rw[this];simp
 ·rintro ⟨n,i⟩ ⟨h1,_⟩ h2
  simp only at h1 h2
  refine ⟨n,?_,by simp[iT]⟩
  unfold fR
  rw[if_neg (by simp only[decide_eq_true_eq];omega)]
 ·rintro ⟨n,i⟩ r t ⟨h1,h2⟩ h3 h4 h5 h6
  simp only at h1 h3 h4 h5 h6
  have hr:=h2 r (List.mem_cons_self ..)
  rw[List.length_cons] at h1
  unfold tq at hr
  unfold fR
  rw[if_pos (by simpa using h4),ae ⟨h3,h4⟩,h5,ae ⟨by omega,by omega⟩,ae ⟨by omega,by omega⟩,ae ⟨by omega,by omega⟩,ae ⟨by omega,by omega⟩]
  refine .inr ⟨(n+(r.qZ-r.from_+1),i+1),rfl,⟨by simp only;omega,λx hx=>h2 x (List.mem_cons_of_mem _ hx)⟩,rfl,?_⟩
  simp only[iT]
  rw[Int.add_assoc]
theorem LK (l:O Range) (h:∀ r,r∈l->tq r) (hl:l.length<=1000000):mZ l=some (iT l):=by
 unfold mZ
 have:=bL (step:=λs:Int×Int=>iP l s.1 s.2) l (λs=>s.2) (λs t=>some (s.1+iT t)) (λs t=>(0<=s.1/\s.1+t.length*1000000000<=1000000*1000000000)/\∀ r,r∈t->tq r) (by omega) ?_ ?_ (s:=(0,0)) rfl ⟨by simp only;omega,h⟩
 ·rw[this];simp
 ·rintro ⟨n,i⟩ ⟨h1,_⟩ h2
  simp only at h1 h2
  refine ⟨n,?_,by simp[iT]⟩
  unfold iP
  rw[if_neg (by simp only[decide_eq_true_eq];omega)]
 ·rintro ⟨n,i⟩ r t ⟨h1,h2⟩ h3 h4 h5 h6
  simp only at h1 h3 h4 h5 h6
  have hr:=h2 r (List.mem_cons_self ..)
  rw[List.length_cons] at h1
  unfold tq at hr
  unfold iP
  rw[if_pos (by simpa using h4),ae ⟨h3,h4⟩,h5,ae ⟨by omega,by omega⟩,ae ⟨h3,h4⟩,ae ⟨by omega,by omega⟩,ae ⟨by omega,by omega⟩,ae ⟨by omega,by omega⟩]
  refine .inr ⟨(n+r.qZ-r.from_+1,i+1),rfl,⟨by simp only;omega,λx hx=>h2 x (List.mem_cons_of_mem _ hx)⟩,rfl,?_⟩
  simp only[iT]
  congr 1
  omega
def ga (m:ao):cx:=⟨o5 m.ai.aX,(m.usages.length:Int),((iT m.ai.seen-(m.usages.length:Int)) - (m.aI.length:Int)) - (m.ai.open_.length:Int),(m.bo.length:Int),(m.aI.length:Int),(m.ai.open_.length:Int)⟩
structure NL (m:ao):Prop where
 seen:∀ r,r∈m.ai.seen->tq r
 aX:∀ h,h∈m.ai.aX->Gg h
 l1:m.ai.seen.length<=1000000
 l2:m.ai.aX.length<=1000000
 l3:m.ai.open_.length<=1000000
 l4:m.usages.length<=1000000
 l5:m.aI.length<=1000000
 l6:m.bo.length<=1000000
theorem I4 (m:ao) (h:NL m):ez m=some (ga m):=by
 have b1:=xE h.seen
 have:=h.l1;have:=h.l2;have:=h.l3;have:=h.l4;have:=h.l5
 unfold ez
 have:=bL (step:=λs:Int×Int=>dy m s.1 s.2) m.ai.aX (λs=>s.1) (λs t=>some (⟨s.2+o5 t,(m.usages.length:Int),((iT m.ai.seen-(m.usages.length:Int)) - (m.aI.length:Int)) - (m.ai.open_.length:Int),(m.bo.length:Int),(m.aI.length:Int),(m.ai.open_.length:Int)⟩:cx))
  (λs t=>(0<=s.2/\s.2+t.length*5000<=1000000*5000)/\∀ r,r∈t->Gg r) (by omega) ?_ ?_ (s:=(0,0)) rfl ⟨by simp only;omega,h.aX⟩
 ·rw[this];simp[ga]
 ·rintro ⟨i,n⟩ ⟨h1,_⟩ h2
  simp only at h1 h2
  refine ⟨_,?_,rfl⟩
  unfold dy
  rw[if_neg (by simp only[decide_eq_true_eq];omega)]
  unfold dx
  rw[NK _ h.seen h.l1,Option.bind_some,ae ⟨by omega,by omega⟩,ae ⟨by omega,by omega⟩,ae ⟨by omega,by omega⟩]
  simp[o5]
 ·rintro ⟨i,n⟩ r t ⟨h1,h2⟩ h3 h4 h5 h6
  simp only at h1 h3 h4 h5 h6
  have hr:=h2 r (List.mem_cons_self ..)
  rw[List.length_cons] at h1
  unfold Gg at hr
  unfold dy
  rw[if_pos (by simpa using h4),ae ⟨h3,h4⟩,h5,ae ⟨by omega,by omega⟩,ae ⟨by omega,by omega⟩]
  refine .inr ⟨(i+1,n+r.count),rfl,⟨by simp only;omega,λx hx=>h2 x (List.mem_cons_of_mem _ hx)⟩,rfl,?_⟩
  simp only[o5]
  rw[Int.add_assoc]
theorem zu (m:ao) (h:NL m):gW m=some (ga m):=by
 have b1:=xE h.seen
 have:=h.l1;have:=h.l2;have:=h.l3;have:=h.l4;have:=h.l5
 unfold gW
 have:=bL (step:=λs:Int×Int=>fX m s.1 s.2) m.ai.aX (λs=>s.1) (λs t=>some (⟨s.2+o5 t,(m.usages.length:Int),((iT m.ai.seen-(m.usages.length:Int)) - (m.aI.length:Int)) - (m.ai.open_.length:Int),(m.bo.length:Int),(m.aI.length:Int),(m.ai.open_.length:Int)⟩:cx))
  (λs t=>(0<=s.2/\s.2+t.length*5000<=1000000*5000)/\∀ r,r∈t->Gg r) (by omega) ?_ ?_ (s:=(0,0)) rfl ⟨by simp only;omega,h.aX⟩
 ·rw[this];simp[ga]
 ·rintro ⟨i,n⟩ ⟨h1,_⟩ h2
  simp only at h1 h2
  refine ⟨_,?_,rfl⟩
  unfold fX
  rw[if_neg (by simp only[decide_eq_true_eq];omega)]
  unfold fW
  rw[LK _ h.seen h.l1,Option.bind_some,ae ⟨by omega,by omega⟩,ae ⟨by omega,by omega⟩,ae ⟨by omega,by omega⟩]
  simp[o5]
 ·rintro ⟨i,n⟩ r t ⟨h1,h2⟩ h3 h4 h5 h6
  simp only at h1 h3 h4 h5 h6
  have hr:=h2 r (List.mem_cons_self ..)
  rw[List.length_cons] at h1
  unfold Gg at hr
  unfold fX
  rw[if_pos (by simpa using h4),ae ⟨h3,h4⟩,h5,ae ⟨by omega,by omega⟩,ae ⟨by omega,by omega⟩]
  refine .inr ⟨(i+1,n+r.count),rfl,⟨by simp only;omega,λx hx=>h2 x (List.mem_cons_of_mem _ hx)⟩,rfl,?_⟩
  simp only[o5]
  rw[Int.add_assoc]
def tv (u:aG):aa:=⟨u.source,u.aF,u.kind,u.a,u.b,u.start,u.aJ,0,0,false,u.bh,u.aP⟩
def sM (m:ao):O aa:=m.usages.map tv++m.aI++m.ai.open_
def Ty (m:ao) (k:Nat):Prop:=(nth m.usages k).id=(k:Int)+1/\(1<=(nth m.usages k).aH/\(nth m.usages k).aH<=9999)/\(1<=(nth m.usages k).sub/\(nth m.usages k).sub<=9999)
def HP (b:cx):Prop:=0<=b.merged/\b.read=b.accepted+b.merged+b.rejected+b.aV+b.open_
structure mj (m:ao):Prop where
 ai:ux m.ai
 WI:∀ k,k<m.usages.length->Ty m k
 VP:∀ r,r∈m.aI->r.part=0
 XR:∀ x,x∈m.bo->x.err=15∨x.err=13
 valid:∀ r,r∈sM m->cr r=0
 seen:∀ r,r∈sM m->(hasB m.ai.seen r.source r.aF && Fs r.source r.aF)=true
 uniq:(sM m).Pairwise NS
 Un:HP (ga m)
structure LL (m:ao):Prop where
 ai:XG m.ai
 l1:m.usages.length<=100000
 l2:m.aI.length<=100000
 l3:m.bo.length<=100000
 u:∀ u,u∈m.usages->Sm (tv u)
 s:∀ r,r∈m.aI->Sm r
theorem LL.Un {m:ao} (h:LL m) (g:ux m.ai):NL m:=⟨g.can.ok,λx hx=>Gh g.aX x hx,by have:=h.ai.seen;omega,by have:=h.ai.aX;omega,by have:=h.ai.opens;omega,by have:=h.l1;omega,by have:=h.l2;omega,by have:=h.l3;omega⟩
theorem NM {m:ao} (h:NL m):(0<=(ga m).read/\(ga m).read<=100000000000)/\(-10000000<=(ga m).merged/\(ga m).merged<=1000000000000000)/\(ga m).accepted=m.usages.length/\(ga m).rejected=m.bo.length/\(ga m).aV=m.aI.length/\(ga m).open_=m.ai.open_.length:=by
 have b1:=xE h.seen
 have b2:=HO h.aX
 have:=h.l1;have:=h.l2;have:=h.l3;have:=h.l4;have:=h.l5;have:=h.l6
 unfold ga
 simp only
 refine ⟨⟨by omega,by omega⟩,⟨by omega,by omega⟩,by first|rfl|trivial,by first|rfl|trivial,by first|rfl|trivial,by first|rfl|trivial⟩
def ky (r:aa):Int×Int:=(r.source,r.aF)
theorem LM {l:O aa}:l.Pairwise NS↔(l.map ky).Nodup:=by
 rw[List.Nodup,List.pairwise_map]
 constructor
 ·intro h;exact h.imp fun {a b} q e=>q (by unfold ky at e;simpa using e)
 ·intro h;exact h.imp fun {a b} q e=>q (by unfold ky;rw[e.1,e.2])
def m7 {α:Type} (a b:O α):Prop:=∃ z,(a++z).Perm b
theorem m7.refl {α:Type} (a:O α):m7 a a:=⟨[],by simp⟩
theorem m7.of {α:Type} {a b:O α} (h:a.Perm b):m7 a b:=⟨[],by simpa using h⟩
theorem m7.trans {α:Type} {a b c:O α}:m7 a b->m7 b c->m7 a c:=λ⟨z,h⟩ ⟨y,k⟩=>⟨z++y,by
 rw[←List.append_assoc];exact (h.append_right y).trans k⟩
theorem m7.append {α:Type} {a b c d:O α}:m7 a b->m7 c d->m7 (a++c) (b++d):=λ⟨z,h⟩ ⟨y,k⟩=>⟨z++y,by
 refine List.Perm.trans ?_ (h.append k)
 rw[List.append_assoc,List.append_assoc]
 refine List.Perm.append_left a ?_
 rw[←List.append_assoc,←List.append_assoc]
 exact List.perm_append_comm.append_right y⟩
theorem m7.nodup {α:Type} {a b:O α}:m7 a b->b.Nodup->a.Nodup:=λ⟨z,h⟩ k=>(List.nodup_append.1 (h.nodup_iff.2 k)).1
theorem m7.mem {α:Type} {a b:O α} {x:α}:m7 a b->x∈a->x∈b:=λ⟨z,h⟩ k=>h.mem_iff.1 (List.mem_append_left _ k)
def NN (w:aa):Prop:=cr w=0/\w.part=0
theorem LN {l:O aa} {w:aa} (h:ry l=some w):NN w/\∃ q t,l=q::t/\ky w=ky q:=by
 cases l with
 | nil=>simp[ry] at h
 | cons q t =>
  rw[show ry (q::t)=(if ((q::t).all λp=>decide (p.part≠0/\cr p=0/\Comm p q))=true/\cr (Fq q (vx (q::t)))=0 then some (Fq q (vx (q::t))) else none) from rfl] at h
  split at h
  ·rename_i hc
   cases h
   exact ⟨⟨hc.2,rfl⟩,q,t,rfl,rfl⟩
  ·cases h
theorem LO {l:O aa} {w:aa} (h:mi l=some w):NN w/\∃ q t,l=q::t/\ky w=ky q:=by
 unfold mi at h
 split at h
 ·exact LN h
 ·cases h
theorem Bm (x:aa):∀ (m:Nat) (now:O aa),(∀ w,w∈(eK m now x).1->NN w)/\m7 (((eK m now x).1++(eK m now x).2).map ky) (now.map ky)
 | 0,now=>⟨λw h=>by simp[eK] at h,.refl _⟩
 | m+1,now=>by
  unfold eK
  cases hc:mi (oY true x 1 now).1 with
  | none=>exact ⟨λw h=>by simp at h,.refl _⟩
  | some w =>
   obtain ⟨XS,XT⟩:=Bm x m (oY true x 1 now).2
   obtain ⟨hw,q,t,e1,e2⟩:=LO hc
   refine ⟨λy hy=>?_,?_⟩
   ·rcases List.mem_cons.1 hy with rfl|hy
    ·exact hw
    ·exact XS y hy
   ·have hp:=(sL true x 1 now).map ky
    rw[List.map_append] at hp
    refine m7.trans ?_ (.of hp)
    simp only[List.cons_append,List.map_cons]
    have:m7 [ky w] ((oY true x 1 now).1.map ky):=by rw[e1,List.map_cons,e2];exact ⟨t.map ky,.refl _⟩
    exact this.append XT
theorem I5 (now:O aa) (r:aa) (hr:cr r=0):(∀ w,w∈(ic now r).1->NN w)/\m7 (((ic now r).1++(ic now r).2).map ky) ((r::now).map ky):=by
 unfold ic
 split
 ·rename_i h0
  exact ⟨λw h=>by rw[List.mem_singleton.1 h];exact ⟨hr,h0⟩,.refl _⟩
 ·obtain ⟨h1,h2⟩:=Bm r (now.length+2) (m6 now r)
  exact ⟨h1,h2.trans (.of ((qu now r).map ky))⟩
theorem wq:∀ (l now:O aa),(∀ r,r∈l->cr r=0)->(∀ w,w∈(eL now l).1->NN w)/\m7 (((eL now l).1++(eL now l).2).map ky) ((now++l).map ky)
 | [],now,_=>⟨λw h=>by simp[eL] at h,by simpa [eL] using m7.refl _⟩
 | r::l,now,h=>by
  obtain ⟨a1,a2⟩:=I5 now r (h r (List.mem_cons_self ..))
  obtain ⟨b1,b2⟩:=wq l (ic now r).2 λz hz=>h z (List.mem_cons_of_mem _ hz)
  unfold eL
  refine ⟨λw hw=>?_,?_⟩
  ·rcases List.mem_append.1 hw with hw|hw
   ·exact a1 w hw
   ·exact b1 w hw
  ·simp only
   rw[List.append_assoc,List.map_append]
   refine ((m7.refl ((ic now r).1.map ky)).append b2).trans ?_
   rw[List.map_append,←List.append_assoc,←List.map_append]
   refine (a2.append (m7.refl (l.map ky))).trans (.of ?_)
   rw[←List.map_append]
   refine List.Perm.map ky ?_
   rw[List.cons_append]
   exact List.perm_middle.symm
def uF (cb:O Event) (r:aa) (id:Int):aG×Int:=CD (gh ((O7 r.start cb w0).getD w0)) r id
theorem Pc (cb:O Event) (r:aa) (id:Int) (hl:cb.length<=40) (hv:VC b0 0 cb) (hs:Sm r):iL cb r id=some (uF cb r id):=by
 obtain ⟨w,b,q1,q2,q3⟩:=HN cb r.start hl hv
 unfold uF
 rw[q1]
 exact LJ cb r id (by omega) q2 q3 (by omega) hs
def tN (cb:List Event):List aa->List aG->List aa->List aG×List aa
 | [],us,ws=>(us,ws)
 | r::l,us,ws=>if (uF cb r ((us.length:Int)+1)).2=0 then tN cb l (us++[(uF cb r ((us.length:Int)+1)).1]) ws else tN cb l us (ws++[r])
theorem xF (cb:O Event):∀ (l:O aa) (us:O aG) (ws:O aa),(tN cb l us ws).1.length+(tN cb l us ws).2.length=us.length+ws.length+l.length
 | [],us,ws=>by simp[tN]
 | r::l,us,ws=>by
  unfold tN
  split
  ·rw[xF cb l];simp;omega
  ·rw[xF cb l];simp;omega
theorem Tz (cb:O Event) (hl:cb.length<=40) (hv:VC b0 0 cb) (m:ao) (l:O aa) (hs:∀ r,r∈l->Sm r) (h1:l.length<=1000000) (h2:m.usages.length<=1000000) (h3:m.aI.length<=1000000) (h4:m.bo.length<=1000000) :
  wP cb m l=some ⟨m.ai,(tN cb l m.usages m.aI).1,(tN cb l m.usages m.aI).2,m.bo⟩/\mY cb m l=some (m.ai.seen,m.ai.open_,m.ai.aX,(tN cb l m.usages m.aI).1,(tN cb l m.usages m.aI).2,m.bo):=by
 refine ⟨?_,?_⟩
 ·unfold wP
  simp only[List.nil_append,List.length_nil,Nat.zero_add]
  rw[ae (by omega),ae (by omega)]
  refine bL (step:=λs:O aG×O aa×Int=>lr cb m l s.1 s.2.1 s.2.2) l (λs=>s.2.2) (λs t=>some (⟨m.ai,(tN cb t s.1 s.2.1).1,(tN cb t s.1 s.2.1).2,m.bo⟩:ao)) (λs t=>(s.1.length+t.length<=2000000/\s.2.1.length+t.length<=2000000)/\∀ r,r∈t->Sm r) (by omega) ?_ ?_ (s:=(m.usages,m.aI,0)) rfl ⟨⟨by simp only;omega,by simp only;omega⟩,hs⟩
  ·rintro ⟨u,w,i⟩ _ h4
   simp only at h4
   refine ⟨_,?_,rfl⟩
   unfold lr sC
   rw[if_neg (by simp only[decide_eq_true_eq];omega),ae (by omega)];rfl
  ·rintro ⟨u,w,i⟩ r t ⟨⟨h4,h5⟩,h6⟩ h7 h8 h9 wR
   simp only at h4 h5 h7 h8 h9 wR
   rw[List.length_cons] at h4 h5
   unfold lr
   simp only
   rw[if_pos (by simpa using h8),ae ⟨h7,h8⟩,ae ⟨by omega,by omega⟩,h9,Pc cb r _ hl hv (h6 r (List.mem_cons_self ..)),Option.bind_some]
   by_cases he:(uF cb r ((u.length:Int)+1)).2=0
   ·rw[if_pos (by simpa using he),ae (by simp only[List.length_singleton];omega),ae ⟨by omega,by omega⟩]
    refine .inr ⟨(u++[(uF cb r ((u.length:Int)+1)).1],w,i+1),rfl,⟨⟨by simp only[List.length_append,List.length_singleton];omega,by simp only;omega⟩,λz hz=>h6 z (List.mem_cons_of_mem _ hz)⟩,rfl,?_⟩
    simp only
    rw[tN,if_pos he]
   ·rw[if_neg (by simpa using he),ae ⟨h7,h8⟩,ae (by simp only[List.length_singleton];omega),ae ⟨by omega,by omega⟩]
    refine .inr ⟨(u,w++[r],i+1),rfl,⟨⟨by simp only;omega,by simp only[List.length_append,List.length_singleton];omega⟩,λz hz=>h6 z (List.mem_cons_of_mem _ hz)⟩,rfl,?_⟩
    simp only
    rw[tN,if_neg he]
 ·unfold mY
  simp only[List.nil_append,List.length_nil,Nat.zero_add]
  rw[ae (by omega),ae (by omega)]
  refine bL (step:=λs:O aG×O aa×Int=>iO cb m l s.1 s.2.1 s.2.2) l (λs=>s.2.2) (λs t=>some (m.ai.seen,m.ai.open_,m.ai.aX,(tN cb t s.1 s.2.1).1,(tN cb t s.1 s.2.1).2,m.bo)) (λs t=>(s.1.length+t.length<=2000000/\s.2.1.length+t.length<=2000000)/\∀ r,r∈t->Sm r) (by omega) ?_ ?_ (s:=(m.usages,m.aI,0)) rfl ⟨⟨by simp only;omega,by simp only;omega⟩,hs⟩
  ·rintro ⟨u,w,i⟩ _ h4
   simp only at h4
   refine ⟨_,?_,rfl⟩
   unfold iO iN
   rw[if_neg (by simp only[decide_eq_true_eq];omega),ae (by simp only[List.length_nil];omega)];rfl
  ·rintro ⟨u,w,i⟩ r t ⟨⟨h4,h5⟩,h6⟩ h7 h8 h9 wR
   simp only at h4 h5 h7 h8 h9 wR
   rw[List.length_cons] at h4 h5
   unfold iO
   simp only
   rw[if_pos (by simpa using h8),ae ⟨h7,h8⟩,ae ⟨by omega,by omega⟩,h9,Pc cb r _ hl hv (h6 r (List.mem_cons_self ..)),Option.bind_some]
   by_cases he:(uF cb r ((u.length:Int)+1)).2=0
   ·rw[if_pos (by simpa using he),ae (by simp only[List.length_singleton];omega),ae ⟨by omega,by omega⟩]
    refine .inr ⟨(u++[(uF cb r ((u.length:Int)+1)).1],w,i+1),rfl,⟨⟨by simp only[List.length_append,List.length_singleton];omega,by simp only;omega⟩,λz hz=>h6 z (List.mem_cons_of_mem _ hz)⟩,rfl,?_⟩
    simp only
    rw[tN,if_pos he]
   ·rw[if_neg (by simpa using he),ae ⟨h7,h8⟩,ae (by simp only[List.length_singleton];omega),ae ⟨by omega,by omega⟩]
    refine .inr ⟨(u,w++[r],i+1),rfl,⟨⟨by simp only;omega,by simp only[List.length_append,List.length_singleton];omega⟩,λz hz=>h6 z (List.mem_cons_of_mem _ hz)⟩,rfl,?_⟩
    simp only
    rw[tN,if_neg he]
theorem HQ (v:bE) (b:Batch) (w:bJ) (h:JC v b):∀ r,r∈(jN v b w).2.1->NN r:=λr hr=>by
 unfold jN at hr
 split at hr
 ·rename_i hc
  split at hr
  ·refine (wq _ _ λx hx=>(xy hc).2.2.2.2 x (Cy hx)).1 r hr
  ·simp at hr
 ·simp at hr
structure TA (m:ao):Prop where
 pI:ux m.ai
 seen:m.ai.seen.length<=60000
 aX:m.ai.aX.length<=60000
 opens:m.ai.open_.length<=60000
 l1:m.usages.length<=300000
 l2:m.aI.length<=300000
 l3:m.bo.length<=300000
 s:∀ r,r∈m.aI->Sm r
theorem TA.WJ {m:ao} (h:TA m) {b:Batch} (h1:b.records.length<=10000) (h2:∀ r,r∈b.records->Sm r):JC m.ai b:=⟨h.pI,h.seen,h.aX,h.opens,h1,h2⟩
def Gt:ao:=⟨(⟨([]:O Range),([]:O aa),([]:O Head)⟩:bE),([]:O aG),([]:O aa),([]:O aj)⟩
def sQ (cb:O Event) (m:ao) (b:Batch) (w:bJ):ao×Int :=
 if (jN m.ai b w).2.2.2=0 then (⟨(jN m.ai b w).1,(tN cb (jN m.ai b w).2.1 m.usages m.aI).1,(tN cb (jN m.ai b w).2.1 m.usages m.aI).2,m.bo++(jN m.ai b w).2.2.1⟩,0) else (Gt,(jN m.ai b w).2.2.2)
section doc
variable (cb:O Event) (hl:cb.length<=40) (hv:VC b0 0 cb)
include hl hv
theorem NO (m:ao) (b:Batch) (w:bJ) (h:TA m) (h1:b.records.length<=10000) (h2:∀ r,r∈b.records->Sm r):oP cb m b w=some (sQ cb m b w):=by
 have hA:=h.WJ h1 h2
 have ha:=Ll m.ai b w hA
 have hw:=HQ m.ai b w hA
 have k1:=h.l1;have k2:=h.l2;have k3:=h.l3
 unfold oP sQ
 rw[IX _ _ _ hA,Option.bind_some]
 by_cases he:(jN m.ai b w).2.2.2=0
 ·rw[if_neg (by simpa using he),if_pos he,(Tz cb hl hv m _ (λr hr=>xw (hw r hr).1) (by omega) (by omega) (by omega) (by omega)).2,Option.bind_some]
  simp only
  rw[ae (by omega)]
 ·rw[if_pos (by simpa using he),if_neg he]
  rfl
end doc
def I6 (us:O aG):Prop:=∀ k,k<us.length->(nth us k).id=(k:Int)+1/\(1<=(nth us k).aH/\(nth us k).aH<=9999)/\(1<=(nth us k).sub/\(nth us k).sub<=9999)
theorem CH {α:Type} [Inhabited α] {a b:O α} {k:Nat} (h:k<a.length):nth (a++b) k=nth a k:=by
 rw[eE h,eE (by rw[List.length_append];omega),List.getElem_append_left h]
theorem EI {α:Type} [Inhabited α] {a:O α} {x:α}:nth (a++[x]) a.length=x:=by
 rw[eE (by simp)];simp
theorem I6.snoc {us:O aG} (h:I6 us) {u:aG} (h1:u.id=(us.length:Int)+1) (h2:1<=u.aH/\u.aH<=9999) (h3:1<=u.sub/\u.sub<=9999):I6 (us++[u]):=λk hk=>by
 rw[List.length_append,List.length_singleton] at hk
 by_cases e:k=us.length
 ·subst e
  rw[EI];exact ⟨h1,h2,h3⟩
 ·rw[CH (by omega)];exact h k (by omega)
theorem TB (cb:O Event) (hl:cb.length<=40) (hv:VC b0 0 cb) (r:aa) (id:Int) (hz:(uF cb r id).2=0) (hw:NN r):(uF cb r id).1.id=id/\(1<=(uF cb r id).1.aH/\(uF cb r id).1.aH<=9999)/\(1<=(uF cb r id).1.sub/\(uF cb r id).1.sub<=9999)/\tv (uF cb r id).1=r:=by
 obtain ⟨w,b,q1,q2,q3⟩:=HN cb r.start hl hv
 obtain ⟨e0,p0⟩:=hw
 obtain ⟨c0,l0⟩:=I3 r e0 p0
 unfold uF at hz ⊢
 rw[q1] at hz ⊢
 simp only[Option.getD_some] at hz ⊢
 have own:=q3.own (dL r)
 unfold CD at hz
 rw[if_neg (show ¬(cr r≠0) from λk=>k e0),if_neg (show ¬(r.part≠0) from λk=>k p0)] at hz
 cases hf:xd (dL r) (gh w) with
 | none =>
  rw[hf] at own
  simp only at own
  rw[own] at hz
  simp at hz
 | some s =>
  have hm:=List.mem_of_find?_eq_some hf
  rw[hf] at own
  simp only at own
  rw[own] at hz
  simp only[Bool.true_eq_false,if_false] at hz
  have RE:¬(s.aV=true/\r.aP=false):=λq=>by rw[if_pos q] at hz;simp at hz
  have hu:CD (gh w) r id=(⟨id,r.kind,s.aH,s.id,r.a,r.b,r.start,r.aJ,r.bh,r.aP,r.source,r.aF⟩,0):=by
   unfold CD
   rw[if_neg (show ¬(cr r≠0) from λk=>k e0),if_neg (show ¬(r.part≠0) from λk=>k p0),own]
   simp only[Bool.true_eq_false,if_false]
   rw[if_neg RE]
  rw[hu]
  have hs:=(q3.sP hm).1
  refine ⟨rfl,q3.acc s hs,q3.Q0 _ (List.mem_map_of_mem hs),?_⟩
  obtain ⟨x1,x2,x3,x4,x5,x6,x7,x8,x9,Ys,Yt,Yu⟩:=r
  simp only at c0 l0 p0
  subst c0;subst l0;subst p0;rfl
theorem xG (cb:O Event) (hl:cb.length<=40) (hv:VC b0 0 cb):∀ (l:O aa) (us:O aG) (ws:O aa),(∀ r,r∈l->NN r)->I6 us ->
  I6 (tN cb l us ws).1/\((tN cb l us ws).1.map tv++(tN cb l us ws).2).Perm (us.map tv++ws++l)/\(∃ z,(tN cb l us ws).1=us++z)/\(∀ r,r∈(tN cb l us ws).2->r∈ws∨r∈l)
 | [],us,ws,_,hu=>⟨hu,by simp[tN],⟨[],by simp[tN]⟩,λr h=>.inl h⟩
 | r::l,us,ws,h,hu=>by
  have hr:=h r (List.mem_cons_self ..)
  have ht:=λz hz=>h z (List.mem_cons_of_mem _ hz)
  unfold tN
  by_cases he:(uF cb r ((us.length:Int)+1)).2=0
  ·rw[if_pos he]
   obtain ⟨o1,o2,o3,o4⟩:=TB cb hl hv r _ he hr
   obtain ⟨i1,i2,⟨z,i3⟩,i4⟩:=xG cb hl hv l (us++[(uF cb r ((us.length:Int)+1)).1]) ws ht (hu.snoc o1 o2 o3)
   refine ⟨i1,i2.trans ?_,⟨(uF cb r ((us.length:Int)+1)).1::z,by rw[i3];simp⟩,λx hx=>(i4 x hx).imp id (List.mem_cons_of_mem _)⟩
   rw[List.map_append,List.map_singleton,o4,List.append_assoc,List.append_assoc,List.append_assoc]
   refine List.Perm.append_left _ ?_
   rw[List.singleton_append]
   exact (List.perm_middle).symm
  ·rw[if_neg he]
   obtain ⟨i1,i2,⟨z,i3⟩,i4⟩:=xG cb hl hv l us (ws++[r]) ht hu
   refine ⟨i1,i2.trans ?_,⟨z,i3⟩,λx hx=>?_⟩
   ·rw[List.append_assoc,List.append_assoc,List.append_assoc,List.singleton_append]
   ·rcases i4 x hx with q|q
    ·rcases List.mem_append.1 q with q|q
     ·exact .inl q
     ·rw[List.mem_singleton.1 q];exact .inr (List.mem_cons_self ..)
    ·exact .inr (List.mem_cons_of_mem _ q)
theorem EJ {s n f:Int} {l:O Range}:iT (oT s n f l)=iT l+(n-f+1):=by
 cases l with
 | nil=>simp[oT,iT]
 | cons r l =>
  rw[oT]
  by_cases h3:TR s n r
  ·rw[if_pos h3]
   unfold TR at h3
   simp only[iT]
   omega
  ·rw[if_neg h3]
   simp only[iT];omega
theorem EK {s n:Int}:∀ (l:O Range),iT (iR s n l)=iT l+1
 | []=>by simp only[iR,iT];omega
 | r::l=>by
  rw[iR]
  by_cases hp:PL s n r
  ·rw[if_pos hp,EJ];omega
  ·rw[if_neg hp]
   by_cases h1:TL s n r
   ·rw[if_pos h1,EJ]
    unfold TL at h1
    simp only[iT]
    omega
   ·rw[if_neg h1]
    simp only[iT,EK l];omega
theorem zw (w:bJ):∀ (t:O aa) (l:O Range) (i:Int),iT (dP w l i t).1=iT l+((dP w l i t).2.1.length:Int)/\(dP w l i t).2.1.length+(dP w l i t).2.2.length=t.length/\(∀ x,x∈(dP w l i t).2.2->x.err=15∨x.err=13)
 | [],l,i=>by simp[dP]
 | r::t,l,i=>by
  by_cases hw:CR w r
  ·by_cases hh:hasB l r.source r.aF=false
   ·obtain ⟨a1,a2,a3⟩:=zw w t (iR r.source r.aF l) (i+1)
    simp only[dP,if_pos hw,if_pos hh,List.length_cons]
    rw[a1,EK]
    exact ⟨by omega,by omega,a3⟩
   ·obtain ⟨a1,a2,a3⟩:=zw w t l (i+1)
    simp only[dP,if_pos hw,if_neg hh,List.length_cons]
    refine ⟨a1,by omega,λx hx=>?_⟩
    rcases List.mem_cons.1 hx with rfl|hx
    ·exact .inr rfl
    ·exact a3 x hx
  ·obtain ⟨a1,a2,a3⟩:=zw w t l (i+1)
   simp only[dP,if_neg hw,List.length_cons]
   refine ⟨a1,by omega,λx hx=>?_⟩
   rcases List.mem_cons.1 hx with rfl|hx
   ·exact .inl rfl
   ·exact a3 x hx
theorem wu (h:Head):∀ (l:O Head),o5 (l++[h])=o5 l+h.count
 | []=>by simp[o5]
 | x::l=>by
  rw[List.cons_append,o5,wu h l,o5];omega
theorem wv (m:ao):HP (ga m)↔((m.usages.length:Int)+m.aI.length+m.ai.open_.length<=iT m.ai.seen/\o5 m.ai.aX=iT m.ai.seen+m.bo.length):=by
 unfold HP ga
 simp only
 omega
theorem LP (cb:O Event) (hl:cb.length<=40) (hv:VC b0 0 cb) (v:bE) (l:O aa) (us:O aG) (ws:O aa) (rj:O aj) (gv:ux v) (hu:I6 us) (XU:∀ r,r∈ws->r.part=0) (hw:∀ r,r∈l->NN r) (XV:∀ x,x∈rj->x.err=15∨x.err=13)
  (vN:∀ r,r∈us.map tv++ws->cr r=0) (AL:((us.map tv++ws++l++v.open_).map ky).Nodup) (TC:∀ r,r∈us.map tv++ws++l->hasB v.seen r.source r.aF=true)
  (hb:(us.length:Int)+ws.length+l.length+v.open_.length<=iT v.seen/\o5 v.aX=iT v.seen+rj.length):mj ⟨v,(tN cb l us ws).1,(tN cb l us ws).2,rj⟩:=by
 obtain ⟨p1,p2,p3,p4⟩:=xG cb hl hv l us ws hw hu
 have hp:(sM ⟨v,(tN cb l us ws).1,(tN cb l us ws).2,rj⟩).Perm (us.map tv++ws++l++v.open_):=by
  unfold sM
  exact p2.append_right _
 have hlen:=xF cb l us ws
 have R9:∀ r,r∈us.map tv++ws++l++v.open_->cr r=0:=λr hr=>by
  rcases List.mem_append.1 hr with hr|hr
  ·rcases List.mem_append.1 hr with hr|hr
   ·exact vN r hr
   ·exact (hw r hr).1
  ·exact (gv.Uf.ok r hr).1
 refine ⟨gv,p1,λr hr=>?_,XV,λr hr=>R9 r (hp.mem_iff.1 hr),λr hr=>?_,?_,?_⟩
 ·rcases p4 r hr with q|q
  ·exact XU r q
  ·exact (hw r q).2
 ·have h1:=hp.mem_iff.1 hr
  have h2:=Cx (R9 r h1)
  rw[h2,Bool.and_true]
  rcases List.mem_append.1 h1 with h1|h1
  ·exact TC r h1
  ·exact ((xz _ _).1 gv.ids).1 r h1 |>.1
 ·rw[LM]
  exact ((hp.map ky).nodup_iff).2 AL
 ·rw[wv]
  simp only
  omega
theorem mj.old {m:ao} (g:mj m):(∀ r,r∈m.usages.map tv++m.aI->cr r=0)/\(∀ r,r∈m.usages.map tv++m.aI->hasB m.ai.seen r.source r.aF=true):=by
 refine ⟨λr hr=>g.valid r ?_,λr hr=>?_⟩
 ·unfold sM;exact List.mem_append_left _ hr
 ·have:=g.seen r (by unfold sM;exact List.mem_append_left _ hr)
  simp only[Bool.and_eq_true] at this
  exact this.1
theorem LQ {l:O Range} {a b:aa} (h:ky a=ky b):hasB l a.source a.aF=hasB l b.source b.aF:=by
 unfold ky at h
 simp only[Prod.mk.injEq] at h
 rw[h.1,h.2]
section run
variable (cb:O Event) (hl:cb.length<=40) (hv:VC b0 0 cb)
include hl hv
theorem I7 {m:ao} (g:mj m) {b:Batch} {w:bJ} (hA:JC m.ai b) (he:(jN m.ai b w).2.2.2=0):mj (sQ cb m b w).1:=by
 unfold sQ
 rw[if_pos he]
 have hc:wj b=0:=by
  unfold jN at he
  split at he
  ·assumption
  ·exact absurd he (by assumption)
 have hn:b.number=pr b.source 1 m.ai.aX:=by
  unfold jN at he
  rw[if_pos hc] at he
  split at he
  ·assumption
  ·simp at he
 have ha:jN m.ai b w=wk m.ai b w:=by unfold jN;rw[if_pos hc,if_pos hn]
 rw[ha]
 obtain ⟨k1,k2,k3,k4,k5⟩:=xy hc
 obtain ⟨a1,a2,a3,a4,a5⟩:=vz w b.records m.ai.seen 0 hA.pI.can k5
 obtain ⟨s1,s2,s3⟩:=zw w b.records m.ai.seen 0
 have gy:=Lp (w:=w) hA hc hn
 generalize hT:dP w m.ai.seen 0 b.records=T at a1 a2 a3 a4 a5 s1 s2 s3
 have Uh:∀ r,r∈T.2.1->cr r=0:=λr hr=>k5 r (Cy (by rw[hT];exact hr))
 obtain ⟨j1,j2⟩:=wq T.2.1 m.ai.open_ Uh
 have j3:=rz m.ai.open_ T.2.1
 have hy:wk m.ai b w=((⟨T.1,(eL m.ai.open_ T.2.1).2,m.ai.aX++[(⟨b.source,b.number,b.format,(b.records.length:Int)⟩:Head)]⟩:bE),(eL m.ai.open_ T.2.1).1,T.2.2,0):=by
  unfold wk;rw[hT]
 rw[hy] at gy ⊢
 obtain ⟨o1,o2⟩:=g.old
 have hb:=(wv m).1 g.Un
 have WK:=LM.1 g.uniq
 unfold sM at WK
 have lJ:((m.usages.map tv++m.aI++(m.ai.open_++T.2.1)).map ky).Nodup:=by
  rw[←List.append_assoc,List.map_append,List.nodup_append]
  refine ⟨WK,LM.1 a4,λx hx y hy e=>?_⟩
  obtain ⟨r,hr,rfl⟩:=List.mem_map.1 hx
  obtain ⟨q,hq,rfl⟩:=List.mem_map.1 hy
  have h1:=g.seen r hr
  have h2:=(a3 q hq).2
  simp only[Bool.and_eq_true] at h1
  rw[LQ e,h2] at h1
  exact absurd h1.1 (by simp)
 have Ny:m7 ((m.usages.map tv++m.aI++(eL m.ai.open_ T.2.1).1++(eL m.ai.open_ T.2.1).2).map ky) ((m.usages.map tv++m.aI++(m.ai.open_++T.2.1)).map ky):=by
  have:=(m7.refl ((m.usages.map tv++m.aI).map ky)).append j2
  rw[←List.map_append,←List.map_append,←List.append_assoc] at this
  exact this
 refine LP cb hl hv _ _ _ _ _ gy g.WI g.VP j1 (λx hx=>?_) o1 (Ny.nodup lJ) (λr hr=>?_) ?_
 ·rcases List.mem_append.1 hx with hx|hx
  ·exact g.XR x hx
  ·exact s3 x hx
 ·rcases List.mem_append.1 hr with hr|hr
  ·exact a2 _ _ (o2 r hr)
  ·have hk:=j2.mem (List.mem_map_of_mem (f:=ky) (List.mem_append_left _ hr))
   obtain ⟨q,hq,e⟩:=List.mem_map.1 hk
   rw[LQ e.symm]
   rcases List.mem_append.1 hq with hq|hq
   ·exact a2 _ _ (((xz _ _).1 hA.pI.ids).1 q hq).1
   ·exact (a3 q hq).1
 ·simp only
  rw[wu,List.length_append]
  simp only
  omega
end run
theorem mj.Pd {m:ao} (g:mj m):∀ r,r∈sM m->Sm r:=λr hr=>xw (g.valid r hr)
theorem mj.VQ {m:ao} (g:mj m) (h1:m.ai.seen.length<=100000) (h2:m.ai.aX.length<=100000) (h3:m.ai.open_.length<=100000) (h4:m.usages.length<=100000) (h5:m.aI.length<=100000) (h6:m.bo.length<=100000):LL m :=
 ⟨⟨h1,h2,h3,g.ai.Uf.wt.sm⟩,h4,h5,h6,λu hu=>g.Pd _ (by unfold sM;exact List.mem_append_left _ (List.mem_append_left _ (List.mem_map_of_mem hu))),λr hr=>g.Pd _ (by unfold sM;exact List.mem_append_left _ (List.mem_append_right _ hr))⟩
theorem mj.VR {m:ao} (g:mj m) (h:LL m) (h1:m.ai.seen.length<=60000) (h2:m.ai.aX.length<=60000) (h3:m.ai.open_.length<=60000):TA m :=
 ⟨g.ai,h1,h2,h3,by have:=h.l1;omega,by have:=h.l2;omega,by have:=h.l3;omega,h.s⟩
structure Fact (m n:ao) (k:Nat):Prop where
 us:∃ z,n.usages=m.usages++z
 len:n.usages.length+n.aI.length+n.ai.open_.length+n.bo.length<=m.usages.length+m.aI.length+m.ai.open_.length+m.bo.length+k
 read:o5 n.ai.aX=o5 m.ai.aX+k
 Yv:(iT m.ai.seen-(m.usages.length:Int)) - m.aI.length-m.ai.open_.length<=(iT n.ai.seen-(n.usages.length:Int)) - n.aI.length-n.ai.open_.length
 seen:n.ai.seen.length<=m.ai.seen.length+k
 aX:n.ai.aX.length=m.ai.aX.length+1
theorem NP {v:bE} {b:Batch} {w:bJ} (he:(jN v b w).2.2.2=0):wj b=0/\b.number=pr b.source 1 v.aX/\jN v b w=wk v b w:=by
 have hc:wj b=0:=by
  unfold jN at he
  split at he
  ·assumption
  ·exact absurd he (by assumption)
 have hn:b.number=pr b.source 1 v.aX:=by
  unfold jN at he
  rw[if_pos hc] at he
  split at he
  ·assumption
  ·simp at he
 exact ⟨hc,hn,by unfold jN;rw[if_pos hc,if_pos hn]⟩
section run
variable (cb:O Event) (hl:cb.length<=40) (hv:VC b0 0 cb)
include hl hv
theorem I8 {m:ao} (g:mj m) {b:Batch} {w:bJ} (hA:JC m.ai b) (he:(jN m.ai b w).2.2.2=0):Fact m (sQ cb m b w).1 b.records.length:=by
 obtain ⟨hc,hn,ha⟩:=NP he
 obtain ⟨s1,s2,s3⟩:=zw w b.records m.ai.seen 0
 obtain ⟨_,_,p3,_⟩:=xG cb hl hv (jN m.ai b w).2.1 m.usages m.aI (HQ m.ai b w hA) g.WI
 have hp:=xF cb (jN m.ai b w).2.1 m.usages m.aI
 have MQ:=Cz w m.ai.seen b.records 0
 have hj:=rz m.ai.open_ (dP w m.ai.seen 0 b.records).2.1
 unfold sQ
 rw[if_pos he]
 rw[ha] at p3 hp ⊢
 have e1:(wk m.ai b w).1.seen=(dP w m.ai.seen 0 b.records).1:=rfl
 have e2:(wk m.ai b w).1.open_=(eL m.ai.open_ (dP w m.ai.seen 0 b.records).2.1).2:=rfl
 have e3:(wk m.ai b w).1.aX=m.ai.aX++[(⟨b.source,b.number,b.format,(b.records.length:Int)⟩:Head)]:=rfl
 have e4:(wk m.ai b w).2.1=(eL m.ai.open_ (dP w m.ai.seen 0 b.records).2.1).1:=rfl
 have e5:(wk m.ai b w).2.2.1=(dP w m.ai.seen 0 b.records).2.2:=rfl
 rw[e4] at p3 hp ⊢
 rw[e5]
 refine ⟨p3,?_,?_,?_,?_,?_⟩
 ·simp only[List.length_append];rw[e2];omega
 ·simp only;rw[e3,wu]
 ·simp only;rw[e1,e2,s1];omega
 ·simp only;rw[e1];omega
 ·simp only;rw[e3,List.length_append];rfl
end run
end Go.Proofs.Ytpdanklncjopoaa
namespace Go.Proofs.Ytpdanklncjopoaa.C12
open Go.RowKit Go.Abs
def Cv (s n f:Int):Int:=if (s<1∨99<s)∨(n<1∨999999999<n) then 6 else if f<1∨3<f then 7 else 0
theorem Cw (s n f:Int):iC s n f=some (Cv s n f):=by
 unfold iC Cv
 by_cases h1:(s<1∨99<s)∨(n<1∨999999999<n)
 ·rw[if_pos h1,if_pos (by simp;omega)]
 ·rw[if_neg h1,if_neg (by simp;omega)]
  by_cases h2:f<1∨3<f
  ·rw[if_pos h2,if_pos (by simp;omega)]
  ·rw[if_neg h2,if_neg (by simp;omega)]
def vb (u:Int):O uA:=if 127<u then UInt8.ofInt (128+u % 128)::vb (u / 128) else [UInt8.ofInt u]
termination_by u.toNat
decreasing_by omega
def Pe (r:aa):Prop:=r.a.length<=200/\r.b.length<=200
instance (r:aa):Decidable (Pe r):=by unfold Pe;infer_instance
def Q6 (r:aa):Bool:=decide (1<=r.kind/\r.kind<=4/\0<=r.aJ/\r.aJ<=1099511627776)
def EL (u:O Int) (r:aa):O Int:=if Q6 r=true then pV u 5 r.kind.toNat (nth u r.kind.toNat+r.aJ) else u
def TD (l:O aa):O Int:=l.foldl EL [0,0,0,0,0]
def LR (r:aa) (k:Nat):Int:=if Q6 r=true/\r.kind.toNat=k then r.aJ else 0
theorem NQ (r:aa) (k:Nat):0<=LR r k/\LR r k<=1099511627776:=by
 unfold LR
 split
 ·rename_i h
  have:=h.1
  simp only[Q6,decide_eq_true_eq] at this
  exact ⟨this.2.2.1,this.2.2.2⟩
 ·omega
theorem EM {u:O Int} (h:u.length=5) (r:aa):(EL u r).length=5:=by
 unfold EL;split
 ·exact Kx _ _ _ _
 ·exact h
theorem LS (u:O Int) (r:aa) {k:Nat} (hk:k<5):nth (EL u r) k=nth u k+LR r k:=by
 unfold EL LR
 by_cases h:Q6 r=true
 ·rw[if_pos h,DF hk]
  by_cases h2:r.kind.toNat=k
  ·rw[if_pos h2,if_pos ⟨h,h2⟩,h2]
  ·rw[if_neg h2,if_neg (λh3=>h2 h3.2)];omega
 ·rw[if_neg h,if_neg (λh3=>h h3.1)];omega
theorem Q7 {u:List Int} (h:u.length=5):[nth u 0,nth u 1,nth u 2,nth u 3,nth u 4]=u:=by
 match u,h with
 | [a,b,c,d,e],_=>rfl
theorem NR {u:O Int} {x:Int} (h:∀ j,j<5->0<=nth u j/\nth u j<=x) {n:Int} (h1:1<=n) (h2:n<=4):0<=nth u n.toNat/\nth u n.toNat<=x:=h _ (by omega)
theorem I9 (l:List aa) (hl:l.length<=1000000):kX l=some ⟨(l.length:Int),TD l⟩:=by
 unfold kX
 have:=cy (step:=λs:Int×Int×Int×Int×Int×Int=>jT l s.1 s.2.1 s.2.2.1 s.2.2.2.1 s.2.2.2.2.1 s.2.2.2.2.2)
  (λs=>some ⟨(l.length:Int),(l.drop s.1.toNat).foldl EL [s.2.1,s.2.2.1,s.2.2.2.1,s.2.2.2.2.1,s.2.2.2.2.2]⟩)
  (λs=>0<=s.1/\s.1<=(l.length:Int)/\∀ j,j<5->0<=nth [s.2.1,s.2.2.1,s.2.2.2.1,s.2.2.2.2.1,s.2.2.2.2.2] j/\nth [s.2.1,s.2.2.1,s.2.2.2.1,s.2.2.2.2.1,s.2.2.2.2.2] j<=s.1*1099511627776)
  (λs=>((l.length:Int) - s.1).toNat) (by
   rintro ⟨i,c1,c2,c3,c4,c5⟩ ⟨h0,h1,h2⟩
   simp only at h0 h1 h2 ⊢
   unfold jT
   by_cases hi:i<(l.length:Int)
   ·right
    have hd:=cR (l:=l) (k:=i.toNat) (by omega)
    rw[if_pos (by simpa using hi),ae ⟨h0,hi⟩]
    generalize nth l i.toNat=r at *
    have WL:=Q7 (u:=[c1,c2,c3,c4,c5]) rfl
    generalize hu:[c1,c2,c3,c4,c5]=u at *
    have P1:u.length=5:=by rw[←hu];rfl
    by_cases hk:Q6 r=true
    ·have CV:=hk
     simp only[Q6,decide_eq_true_eq] at CV
     have hb:=NR h2 CV.1 CV.2.1
     have CA:EL u r=pV u 5 r.kind.toNat (nth u r.kind.toNat+r.aJ):=if_pos hk
     rw[if_pos (by simp;omega),ae (by omega),ae (by omega),ae (by omega),ae (by omega),ae (by omega),ae (by omega)]
     refine ⟨_,rfl,⟨by omega,by omega,?_⟩,by omega,?_⟩
     ·simp only
      rw[←CA,Q7 (EM P1 r)]
      intro j hj
      rw[LS u r hj]
      have:=h2 j hj
      have:=NQ r j
      omega
     ·simp only
      rw[←CA,Q7 (EM P1 r),show (i+1).toNat=i.toNat+1 from by omega,hd,List.foldl_cons]
    ·have CV:=hk
     simp only[Q6,decide_eq_true_eq] at CV
     have CA:EL u r=u:=if_neg hk
     rw[if_neg (by simp;omega),ae (by omega)]
     refine ⟨_,rfl,⟨by omega,by omega,?_⟩,by omega,?_⟩
     ·simp only
      rw[hu]
      intro j hj
      have:=h2 j hj
      omega
     ·simp only
      rw[hu,show (i+1).toNat=i.toNat+1 from by omega,hd,List.foldl_cons,CA]
   ·left
    rw[if_neg (by simpa using hi),List.drop_of_length_le (by omega)]
    exact ⟨_,rfl,rfl⟩) (s:=(0,0,0,0,0,0)) ⟨by simp,by simp,by
     intro j hj
     match j,hj with
     | 0,_=>simp[nth]
     | 1,_=>simp[nth]
     | 2,_=>simp[nth]
     | 3,_=>simp[nth]
     | 4,_=>simp[nth]⟩ (by simp;omega)
 rw[this];rfl
theorem NT (b:O uA) (hb:b.length<=1000000000):∃ n,lU b=some n:=by
 unfold lU
 obtain ⟨r,h,_⟩:=ka (step:=λs:Int×Int=>nA b s.1 s.2) (λ_=>True) (λs=>0<=s.2/\s.2<=(b.length:Int)) (λs=>((b.length:Int) - s.2).toNat) (by
  rintro ⟨n,i⟩ ⟨h0,h1⟩
  simp only at h0 h1 ⊢
  unfold nA
  by_cases hi:i<(b.length:Int)
  ·rw[if_pos (by simpa using hi),ae ⟨h0,hi⟩,ae (by omega)]
   exact .inr ⟨_,rfl,⟨by simp only;omega,by simp only;omega⟩,by simp only;omega⟩
  ·rw[if_neg (by simpa using hi)]
   exact .inl ⟨_,rfl,trivial⟩) (s:=(2166136261,0)) ⟨by simp,by simp⟩ (by simp;omega)
 exact ⟨r,h⟩
def NU (b:O uA):Int:=(lU b).getD 0
theorem TE (b:O uA) (hb:b.length<=1000000000):lU b=some (NU b):=by
 obtain ⟨n,h⟩:=NT b hb
 unfold NU;rw[h];rfl
end Go.Proofs.Ytpdanklncjopoaa.C12
namespace Go.Proofs.Ytpdanklncjopoaa.C11
open Go.RowKit Go.Abs
def pk (n:Int):uA:=UInt8.ofInt (n / 10 % 10*16+n % 10)
def sR:Nat->Int->List uA
 | 0,_=>[]
 | k+1,n=>pk (n / 100 ^ k)::sR k n
theorem HR {n m:Int} (h:0<=n):Int.tdiv n m=n / m:=Int.tdiv_eq_ediv_of_nonneg h
theorem CI {n m:Int} (h:0<=n):Int.tmod n m=n % m:=Int.tmod_eq_emod_of_nonneg h
theorem wU (k:Nat):(100:Int) ^ (k+1)=100 ^ k*100:=by rw[Int.pow_succ]
theorem Gu (k:Nat):(0:Int)<100 ^ k:=Int.pow_pos (by decide)
theorem div_pow {n:Int} (k:Nat):n / 100 ^ k / 100=n / 100 ^ (k+1):=by
 rw[wU,Int.ediv_ediv_of_nonneg (Int.le_of_lt (Gu k))]
theorem uI {p:uA->Prop} (h:∀ n:Fin 256,p (UInt8.ofNat n.val)) (x:uA):p x:=by
 have:=h ⟨x.toNat,x.toNat_lt⟩
 simpa using this
theorem zx (x:uA):(x / 16).toNat=x.toNat / 16:=by simp
theorem LU (x:uA):(x % 16).toNat=x.toNat % 16:=by simp
def CJ:Int->List uA->Int×Int
 | n,[]=>(n,0)
 | n,x::xs=>if 9<x.toNat / 16∨9<x.toNat % 16 then (0,1) else CJ (100*n+((x.toNat / 16:Nat):Int)*10+((x.toNat % 16:Nat):Int)) xs
def g0 (b:O uA):Int×Int:=if b.length<1∨b.length > 9 then (0,6) else CJ 0 b
theorem Ja {b:O uA} {i:Nat} (n:Int) (h:i<b.length):CJ n (b.drop i)=if 9<(nth b i).toNat / 16∨9<(nth b i).toNat % 16 then (0,1) else CJ (100*n+(((nth b i).toNat / 16:Nat):Int)*10+(((nth b i).toNat % 16:Nat):Int)) (b.drop (i+1)):=by
 rw[eE h,List.drop_eq_getElem_cons h,CJ]
theorem NV (x:uA):(decide ((x / 16) > 9))=decide (9<x.toNat / 16):=by
 rw[Bool.eq_iff_iff,decide_eq_true_iff,decide_eq_true_iff,gt_iff_lt,UInt8.lt_iff_toNat_lt,zx];exact Iff.rfl
theorem NW (x:uA):(decide ((x % 16) > 9))=decide (9<x.toNat % 16):=by
 rw[Bool.eq_iff_iff,decide_eq_true_iff,decide_eq_true_iff,gt_iff_lt,UInt8.lt_iff_toNat_lt,LU];exact Iff.rfl
def Q8 (b:O uA) (n i:Int):Prop:=0<=i/\i<=(b.length:Int)/\0<=n/\n<100 ^ i.toNat
theorem Jb {b:O uA} {n i:Int} {x y:Nat} (h:Q8 b n i) (hi:i<(b.length:Int)) (hx:x<=9) (hy:y<=9):Q8 b (100*n+(x:Int)*10+(y:Int)) (i+1):=by
 obtain ⟨h1,h2,h3,h4⟩:=h
 have:(i+1).toNat=i.toNat+1:=by omega
 refine ⟨by omega,by omega,by omega,?_⟩
 rw[this,wU]
 omega
theorem NX {k:Nat} (h:k<=8):(100:Int) ^ k<=10000000000000000:=by
 have:∀ j:Fin 9,(100:Int) ^ j.val<=10000000000000000:=by decide +kernel
 exact this ⟨k,by omega⟩
theorem Gv (b:O uA) (hb:b.length<=1000000000):jF b=some (g0 b):=by
 unfold jF g0
 by_cases h:b.length<1∨b.length > 9
 ·rw[if_pos (by simp;omega),if_pos h]
 ·rw[if_neg (by simp;omega),if_neg h]
  refine cy (λs=>some (CJ s.1 (b.drop s.2.toNat))) (λs:Int×Int=>Q8 b s.1 s.2) (λs=>((b.length:Int) - s.2).toNat) (λs hI=>?_) ⟨by omega,by omega,by omega,by simp⟩ (by simp;omega)
  obtain ⟨n,i⟩:=s
  obtain ⟨h1,h2,h3,h4⟩:=id hI
  simp only[] at *
  unfold lX
  by_cases hi:i<(b.length:Int)
  ·have hp:=NX (k:=i.toNat) (by omega)
   rw[if_pos (by simpa using hi),ae ⟨h1,hi⟩,ae (by decide),ae (λ_=>⟨h1,hi⟩),ae (λ_=>by decide),NV,NW]
   have hd:=Ja n (show i.toNat<b.length by omega)
   generalize nth b (i.toNat)=x at hd
   by_cases hx:9<x.toNat / 16∨9<x.toNat % 16
   ·rw[if_pos (by simpa using hx)]
    exact .inl ⟨_,rfl,by rw[hd,if_pos hx]⟩
   ·rw[if_neg (by simpa using hx),zx,LU,ae (by omega),ae ⟨h1,hi⟩,ae (by decide),ae (by omega),ae (by omega),ae ⟨h1,hi⟩,ae (by decide),ae (by omega),ae (by omega)]
    refine .inr ⟨_,rfl,?_,by simp only[];omega,?_⟩
    ·have:=Jb hI hi (show x.toNat / 16<=9 by omega) (show x.toNat % 16<=9 by omega)
     rw[Int.mul_comm 100 n] at this
     exact this
    ·rw[hd,if_neg hx,show (i+1).toNat=i.toNat+1 by omega,Int.mul_comm 100 n]
  ·rw[if_neg (by simpa using hi)]
   refine .inl ⟨_,rfl,?_⟩
   rw[List.drop_of_length_le (by omega)];rfl
theorem Q9 (q:Int) (h:0<=q):(pk q).toNat / 16=(q / 10 % 10).toNat/\(pk q).toNat % 16=(q % 10).toNat:=by
 have key:∀ x y:Fin 10,(UInt8.ofInt ((x.val:Int)*16+(y.val:Int))).toNat=x.val*16+y.val:=by decide +kernel
 have:=key ⟨(q / 10 % 10).toNat,by omega⟩ ⟨(q % 10).toNat,by omega⟩
 simp only[Int.toNat_of_nonneg (show 0<=q / 10 % 10 by omega),Int.toNat_of_nonneg (show 0<=q % 10 by omega)] at this
 unfold pk
 rw[this]
 omega
end Go.Proofs.Ytpdanklncjopoaa.C11
namespace Go.Proofs.Ytpdanklncjopoaa.C12
open Go.RowKit Go.Abs
def zz (u:Int):Int:=if u % 2=1 then -(u / 2) - 1 else u / 2
def sS:Nat->Int->List uA->Int×Nat×Int
 | _,_,[]=>(0,0,2)
 | i,u,x::t=>if (i=9/\x≠1)∨(0<i/\x=0) then (0,0,1) else if x.toNat<128 then (zz (u+(x.toNat:Int)*128 ^ i),i+1,0) else sS (i+1) (u+((x.toNat % 128:Nat):Int)*128 ^ i) t
def zy (b:O uA):Int×O uA×Int:=if (sS 0 0 b).2.2=0 then ((sS 0 0 b).1,b.drop (sS 0 0 b).2.1,0) else (0,[],(sS 0 0 b).2.2)
theorem Gw:∀ i:Fin 10,(128:Int) ^ i.val<=9223372036854775808/\1<=(128:Int) ^ i.val:=by decide
theorem EN:∀ i:Fin 9,(128:Int) ^ i.val<=72057594037927936:=by decide
theorem Bn {i:Nat} (h:i<=9):(128:Int) ^ i<=9223372036854775808/\1<=(128:Int) ^ i:=Gw ⟨i,by omega⟩
theorem EO {i:Nat} (h:i<=8):(128:Int) ^ i<=72057594037927936:=EN ⟨i,by omega⟩
theorem wrap_u64 {n:Int} (h0:0<=n) (h1:n<18446744073709551616):IntKind.wrap .u64 n=n:=by simp[IntKind.wrap,IntKind.bits,IntKind.signed];omega
theorem Jc {n:Int} (h0:-9223372036854775808<=n) (h1:n<=9223372036854775807):IntKind.wrap .i64 n=n:=by simp[IntKind.wrap,IntKind.bits,IntKind.signed];omega
theorem Jd {b:O uA} {k:Nat} (i:Nat) (u:Int) (h:k<b.length):sS i u (b.drop k)=if (i=9/\nth b k≠1)∨(0<i/\nth b k=0) then (0,0,1) else if (nth b k).toNat<128 then (zz (u+((nth b k).toNat:Int)*128 ^ i),i+1,0) else sS (i+1) (u+(((nth b k).toNat % 128:Nat):Int)*128 ^ i) (b.drop (k+1)):=by
 rw[cR h];rfl
def NY (b:O uA) (u i:Int):Prop:=0<=i/\i<=9/\i<=(b.length:Int)/\0<=u/\u<128 ^ i.toNat
theorem Je {b:O uA} {u i:Int} {x:uA} (h:NY b u i) (hi:i<(b.length:Int)) (hx:¬ ((i.toNat=9/\x≠1)∨(0<i.toNat/\x=0))) :
  u+(x.toNat:Int)*128 ^ i.toNat<18446744073709551616/\(¬ x.toNat<128->NY b (u+((x.toNat % 128:Nat):Int)*128 ^ i.toNat) (i+1)):=by
 obtain ⟨h0,h9,hl,UR,hu⟩:=h
 have hp:=Bn (i:=i.toNat) (by omega)
 have XW:=x.toNat_lt
 by_cases XX:i.toNat=9
 ·have RG:x=1:=by
   rcases Decidable.em (x=1) with h|h
   ·exact h
   ·exact absurd (.inl ⟨XX,h⟩) hx
  subst RG
  have:(1:uA).toNat=1:=rfl
  rw[this]
  exact ⟨by omega,λh=>absurd (by omega) h⟩
 ·have h8:=EO (i:=i.toNat) (by omega)
  have hmul:(x.toNat:Int)*128 ^ i.toNat<=255*128 ^ i.toNat:=Int.mul_le_mul_of_nonneg_right (by omega) (by omega)
  refine ⟨by omega,λhn=>⟨by omega,by omega,by omega,?_,?_⟩⟩
  ·have:0<=((x.toNat % 128:Nat):Int)*128 ^ i.toNat:=Int.mul_nonneg (by omega) (by omega)
   omega
  ·have e:(i+1).toNat=i.toNat+1:=by omega
   have OP:((x.toNat % 128:Nat):Int)*128 ^ i.toNat<=127*128 ^ i.toNat:=Int.mul_le_mul_of_nonneg_right (by omega) (by omega)
   rw[e,Int.pow_succ];omega
theorem HS:∀ (b:O uA) (i:Nat) (u:Int),(sS i u b).2.2=0->i<(sS i u b).2.1/\(sS i u b).2.1<=i+b.length
 | [],i,u,h=>by simp[sS] at h
 | x::t,i,u,h=>by
  unfold sS at h ⊢
  split at h
  ·cases h
  ·rename_i hc
   rw[if_neg hc]
   split at h
   ·rename_i hx
    rw[if_pos hx];simp
   ·rename_i hx
    rw[if_neg hx]
    have:=HS t (i+1) _ h
    simp only[List.length_cons];omega
theorem Cr (b:O uA) (hb:b.length<=1000000):oD [] b=some b:=by
 unfold oD
 rw[ae (by simp),ae (by simp;omega)]
 rfl
theorem NZ {b:O uA}:zy b=let r:=sS 0 0 b;if r.2.2=0 then (r.1,b.drop r.2.1,0) else (0,[],r.2.2):=rfl
theorem Bo (b:O uA) (hb:b.length<=1000000):jg b=some (zy b):=by
 unfold jg
 have:=cy (step:=λs:Int×Int×Int=>jQ b s.1 s.2.1 s.2.2) (λs=>let r:=sS s.2.2.toNat s.1 (b.drop s.2.2.toNat);some (if r.2.2=0 then (r.1,b.drop r.2.1,0) else (0,[],r.2.2))) (λs=>NY b s.1 s.2.2/\s.2.1=128 ^ s.2.2.toNat) (λs=>((b.length:Int) - s.2.2).toNat) (by
  rintro ⟨u,w,i⟩ ⟨hI,hw⟩
  have WM:NY b u i:=hI
  have hw:w=128 ^ i.toNat:=hw
  clear hI
  obtain ⟨h0,h9,hl,UR,hu⟩:=id WM
  simp only
  unfold jQ
  rw[if_pos (by simp;omega)]
  by_cases hi:i<(b.length:Int)
  ·rw[if_neg (by simp;omega),ae ⟨h0,hi⟩,Jd _ _ (by omega)]
   generalize hx:nth b i.toNat=x
   have XW:=x.toNat_lt
   rw[wrap_u64 (n:=(x.toNat:Int)) (by omega) (by omega)]
   by_cases hc:(i.toNat=9/\x≠1)∨(0<i.toNat/\x=0)
   ·have kn:(((i==9) && ((x.toNat:Int) != 1)) || ((decide (i > 0)) && ((x.toNat:Int)==0)))=true:=by
     simp only[Bool.or_eq_true,Bool.and_eq_true,beq_iff_eq,bne_iff_ne,decide_eq_true_eq]
     rcases hc with ⟨a,c⟩|⟨a,c⟩
     ·exact .inl ⟨by omega,λe=>c (UInt8.toNat_inj.1 (by have:(1:uA).toNat=1:=rfl;omega))⟩
     ·exact .inr ⟨by omega,by subst c;rfl⟩
    rw[if_pos kn,if_pos hc]
    exact .inl ⟨_,rfl,rfl⟩
   ·have kn:¬ (((i==9) && ((x.toNat:Int) != 1)) || ((decide (i > 0)) && ((x.toNat:Int)==0)))=true:=by
     simp only[Bool.or_eq_true,Bool.and_eq_true,beq_iff_eq,bne_iff_ne,decide_eq_true_eq]
     rintro (⟨a,c⟩|⟨a,c⟩)
     ·exact hc (.inl ⟨by omega,λe=>c (by subst e;rfl)⟩)
     ·exact hc (.inr ⟨by omega,UInt8.toNat_inj.1 (by have:(0:uA).toNat=0:=rfl;omega)⟩)
    obtain ⟨s1,s2⟩:=Je WM hi hc
    have hp:=Bn (i:=i.toNat) (by omega)
    have ht:Int.tmod (x.toNat:Int) 128=((x.toNat % 128:Nat):Int):=by rw[Int.tmod_eq_emod_of_nonneg (by omega)];omega
    have hle:((x.toNat % 128:Nat):Int)*128 ^ i.toNat<=(x.toNat:Int)*128 ^ i.toNat:=Int.mul_le_mul_of_nonneg_right (by omega) (by omega)
    have Tw:0<=((x.toNat % 128:Nat):Int)*128 ^ i.toNat:=Int.mul_nonneg (by omega) (by omega)
    rw[if_neg kn,if_neg hc,ae (by decide),ht,hw]
    generalize hq:((x.toNat % 128:Nat):Int)*128 ^ i.toNat=q at *
    rw[wrap_u64 (n:=q) Tw (by omega),wrap_u64 (n:=u+q) (by omega) (by omega)]
    by_cases RG:x.toNat<128
    ·have hm:((x.toNat % 128:Nat):Int)=(x.toNat:Int):=by omega
     rw[hm] at hq
     rw[if_neg (by simp;omega),if_pos RG,ae (by omega),ae (by omega),Cr _ (by simp;omega)]
     simp only[Option.bind_some]
     have e0:Int.tmod (u+q) 2=(u+q) % 2:=Int.tmod_eq_emod_of_nonneg (by omega)
     have e1:Int.tdiv (u+q) 2=(u+q) / 2:=Int.tdiv_eq_ediv_of_nonneg (by omega)
     rw[ae (by decide),e0,e1,wrap_u64 (n:=(u+q) / 2) (by omega) (by omega),Jc (n:=(u+q) / 2) (by omega) (by omega),hq]
     refine .inl ?_
     have e2:(i+1).toNat=i.toNat+1:=by omega
     unfold zz
     by_cases ho:(u+q) % 2=1
     ·rw[if_pos (by simpa using ho),if_pos ho,ae (by decide),ae (by omega),ae (by omega),e2]
      exact ⟨_,rfl,rfl⟩
     ·rw[if_neg (by simpa using ho),if_neg ho,ae (by decide),e2]
      exact ⟨_,rfl,rfl⟩
    ·rw[if_pos (by simp;omega),if_neg RG,ae (by omega)]
     refine .inr ⟨_,rfl,⟨s2 RG,?_⟩,by simp only;omega,?_⟩
     ·have h8:i.toNat<=8:=by
       have:=(s2 RG).2.1
       omega
      have Yw:=EO h8
      show IntKind.wrap .u64 (128 ^ i.toNat*128)=128 ^ (i+1).toNat
      rw[show (i+1).toNat=i.toNat+1 from by omega,Int.pow_succ,wrap_u64 (by omega) (by omega)]
     ·simp only
      rw[show (i+1).toNat=i.toNat+1 from by omega]
  ·have e:i=(b.length:Int):=by omega
   subst e
   rw[if_pos (by simp)]
   refine .inl ⟨_,rfl,?_⟩
   simp[sS]) (s:=(0,1,0)) ⟨⟨by simp,by simp,by simp,by simp,by simp⟩,by simp⟩ (by simp;omega)
 rw[this]
 simp[zy]
def Uo (a b c d:uA):Int:=(a.toNat:Int)*16777216+(b.toNat:Int)*65536+(c.toNat:Int)*256+(d.toNat:Int)
def jO (b:O uA):O uA×O uA×Int :=
 let r:=sS 0 0 b
 if r.2.2≠0 then ([],[],r.2.2) else if r.1<0 then ([],[],1) else if 1048576<r.1 then ([],[],5) else
 if b.length<r.2.1+4+r.1.toNat then ([],[],2) else
 if NU ((b.drop (r.2.1+4)).take r.1.toNat)≠Uo (nth b r.2.1) (nth b (r.2.1+1)) (nth b (r.2.1+2)) (nth b (r.2.1+3)) then ([],[],4) else
 ((b.drop (r.2.1+4)).take r.1.toNat,b.drop (r.2.1+4+r.1.toNat),0)
theorem wrap_u32 {n:Int} (h0:0<=n) (h1:n<4294967296):IntKind.wrap .u32 n=n:=by simp[IntKind.wrap,IntKind.bits,IntKind.signed];omega
theorem LV (x:uA) (k:Nat) (hk:k=24∨k=16∨k=8):IntKind.wrap .u32 ((IntKind.wrap .u32 (x.toNat:Int))*2 ^ (min (Int.toNat (k:Int)) 32))=(x.toNat:Int)*2 ^ k:=by
 have hx:=x.toNat_lt
 rw[wrap_u32 (n:=(x.toNat:Int)) (by omega) (by omega)]
 rcases hk with rfl|rfl|rfl
 ·have e:(2:Int) ^ (min (Int.toNat ((24:Nat):Int)) 32)=16777216:=by decide
  have e':(2:Int) ^ 24=16777216:=by decide
  rw[e,e',wrap_u32 (by omega) (by omega)]
 ·have e:(2:Int) ^ (min (Int.toNat ((16:Nat):Int)) 32)=65536:=by decide
  have e':(2:Int) ^ 16=65536:=by decide
  rw[e,e',wrap_u32 (by omega) (by omega)]
 ·have e:(2:Int) ^ (min (Int.toNat ((8:Nat):Int)) 32)=256:=by decide
  have e':(2:Int) ^ 8=256:=by decide
  rw[e,e',wrap_u32 (by omega) (by omega)]
theorem VS {α:Type} [Inhabited α] (l:O α) (i j:Nat):nth (l.drop i) j=nth l (i+j):=by simp[nth]
theorem TF (x:uA):IntKind.wrap .u32 ((IntKind.wrap .u32 (x.toNat:Int))*2 ^ (min (Int.toNat (24)) 32))=(x.toNat:Int)*16777216:=LV x 24 (by simp)
theorem TG (x:uA):IntKind.wrap .u32 ((IntKind.wrap .u32 (x.toNat:Int))*2 ^ (min (Int.toNat (16)) 32))=(x.toNat:Int)*65536:=LV x 16 (by simp)
theorem VT (x:uA):IntKind.wrap .u32 ((IntKind.wrap .u32 (x.toNat:Int))*2 ^ (min (Int.toNat (8)) 32))=(x.toNat:Int)*256:=LV x 8 (by simp)
theorem wx (b:O uA) (hb:b.length<=1000000):gr b=some (jO b):=by
 unfold gr jO
 rw[Bo b hb,NZ]
 simp only[Option.bind_some]
 have hle:=HS b 0 0
 generalize sS 0 0 b=r at hle ⊢
 obtain ⟨n,c,e⟩:=r
 simp only at hle ⊢
 by_cases he:e=0
 ·subst he
  have hle:=hle rfl
  simp only[if_true,ne_eq,not_true_eq_false,if_false]
  rw[if_neg (by simp)]
  by_cases h1:n<0
  ·rw[if_pos (by simpa using h1),if_pos h1]
  ·rw[if_neg (by simpa using h1),if_neg h1]
   by_cases h2:1048576<n
   ·rw[if_pos (by simpa using h2),if_pos h2]
   ·rw[if_neg (by simpa using h2),if_neg h2,ae (by omega)]
    have hn:(n.toNat:Int)=n:=by omega
    by_cases h3:b.length<c+4+n.toNat
    ·rw[if_pos (by simp;omega),if_pos h3]
    ·have hl:(b.drop c).length=b.length-c:=List.length_drop
     have ep:((b.drop c).take (Int.toNat (4+n))).drop (Int.toNat (4:Int))=(b.drop (c+4)).take n.toNat:=by
      rw[List.drop_take,List.drop_drop]
      congr 1;omega
     have er:(b.drop c).drop (Int.toNat (4+n))=b.drop (c+4+n.toNat):=by
      rw[List.drop_drop];congr 1;omega
     rw[if_neg (by simp;omega),if_neg h3,ae (by omega),ae (by omega),ep,ae (by simp;omega),ae (by omega),ae (by decide),ae (by omega),ae (by decide),ae (by omega),ae (by decide),ae (by omega),
      TE _ (by simp;omega)]
     simp only[Option.bind_some,VS,show Int.toNat 0=0 from rfl,show Int.toNat 1=1 from rfl,show Int.toNat 2=2 from rfl,show Int.toNat 3=3 from rfl,Nat.add_zero]
     have s1:=TF (nth b c)
     have s2:=TG (nth b (c+1))
     have s3:=VT (nth b (c+2))
     have hs:IntKind.wrap .u32 ((IntKind.wrap .u32 ((IntKind.wrap .u32 ((IntKind.wrap .u32 ((IntKind.wrap .u32 ((nth b c).toNat:Int))*2 ^ (min (Int.toNat (24)) 32)))+(IntKind.wrap .u32 ((IntKind.wrap .u32 ((nth b (c+1)).toNat:Int))*2 ^ (min (Int.toNat (16)) 32)))))+(IntKind.wrap .u32 ((IntKind.wrap .u32 ((nth b (c+2)).toNat:Int))*2 ^ (min (Int.toNat (8)) 32)))))+(IntKind.wrap .u32 ((nth b (c+3)).toNat:Int)))=Uo (nth b c) (nth b (c+1)) (nth b (c+2)) (nth b (c+3)):=by
      have ha:=(nth b c).toNat_lt;have gQ:=(nth b (c+1)).toNat_lt;have hc:=(nth b (c+2)).toNat_lt;have hd:=(nth b (c+3)).toNat_lt
      rw[s1,s2,s3,wrap_u32 (n:=((nth b (c+3)).toNat:Int)) (by omega) (by omega)]
      unfold Uo
      rw[wrap_u32 (n:=((nth b c).toNat:Int)*16777216+((nth b (c+1)).toNat:Int)*65536) (by omega) (by omega),wrap_u32 (n:=((nth b c).toNat:Int)*16777216+((nth b (c+1)).toNat:Int)*65536+((nth b (c+2)).toNat:Int)*256) (by omega) (by omega),wrap_u32 (by omega) (by omega)]
     rw[hs]
     by_cases h4:NU ((b.drop (c+4)).take n.toNat)=Uo (nth b c) (nth b (c+1)) (nth b (c+2)) (nth b (c+3))
     ·rw[if_neg (by simpa using h4),if_neg (by simpa using h4),ae (by omega),ae (by omega),er,ae (by simp;omega)]
     ·rw[if_pos (by simpa using h4),if_pos h4]
 ·simp only[if_neg he]
  rw[if_pos (by simpa using he),if_pos he]
theorem vB (b:O uA):(jO b).1.length<=b.length/\(jO b).2.1.length<=b.length:=by
 unfold jO
 simp only
 split
 ·simp
 ·split
  ·simp
  ·split
   ·simp
   ·split
    ·simp
    ·split
     ·simp
     ·simp;omega
def o6:Nat->List uA->List Int×Int
 | 0,b=>([],if b.length > 0 then 3 else 0)
 | k+1,b=>if (zy b).2.2≠0 then ([],(zy b).2.2) else ((zy b).1::(o6 k (zy b).2.1).1,(o6 k (zy b).2.1).2)
theorem N0 (b:O uA):(zy b).2.1.length<=b.length:=by
 unfold zy
 split
 ·simp
 ·simp
theorem zA:∀ (k:Nat) (b:O uA),(o6 k b).2=0->(o6 k b).1.length=k
 | 0,b,_=>rfl
 | k+1,b,h=>by
  unfold o6 at h ⊢
  split at h
  ·rename_i hn;exact absurd h hn
  ·rename_i hn
   rw[if_neg hn]
   simp only[List.length_cons,zA k _ h]
theorem HT (b:O uA) (n:Nat) (hn:n<=1000) (hb:b.length<=1000000):iB b (n:Int)=some (if (o6 n b).2=0 then (o6 n b).1 else [],(o6 n b).2):=by
 unfold iB
 have:=cy (step:=λs:O uA×O Int×Int=>mq (n:Int) s.1 s.2.1 s.2.2) (λs=>let t:=o6 (n-s.2.2.toNat) s.1;some (if t.2=0 then s.2.1++t.1 else [],t.2)) (λs=>s.1.length<=1000000/\0<=s.2.2/\s.2.2<=(n:Int)/\s.2.1.length=s.2.2.toNat) (λs=>((n:Int) - s.2.2).toNat) (by
  rintro ⟨c,out,i⟩ ⟨k0,k1,k2,k3⟩
  simp only at k0 k1 k2 k3 ⊢
  unfold mq
  by_cases hi:i<(n:Int)
  ·rw[if_pos (by simpa using hi),Bo c k0]
   simp only[Option.bind_some]
   have e:n-i.toNat=(n-(i+1).toNat)+1:=by omega
   rw[e]
   simp only[o6]
   by_cases he:(zy c).2.2=0
   ·rw[if_neg (by simp[he]),ae (by simp;omega),ae (by omega)]
    simp only[he,ne_eq,not_true_eq_false,if_false]
    refine .inr ⟨_,rfl,⟨Nat.le_trans (N0 c) k0,by simp only;omega,by simp only;omega,by simp only[List.length_append,List.length_cons,List.length_nil];omega⟩,by simp only;omega,?_⟩
    simp only[List.append_assoc,List.cons_append,List.nil_append]
   ·rw[if_pos (by simpa using he)]
    simp only[he,ne_eq,not_false_eq_true,if_true,if_false]
    exact .inl ⟨_,rfl,rfl⟩
  ·have e:i=(n:Int):=by omega
   subst e
   rw[if_neg (by simp)]
   unfold jE
   simp only[Int.toNat_natCast,Nat.sub_self,o6,List.append_nil]
   by_cases hc:c.length > 0
   ·rw[if_pos (by simp only[decide_eq_true_eq];omega),if_pos hc]
    exact .inl ⟨_,rfl,rfl⟩
   ·rw[if_neg (by simp only[decide_eq_true_eq];omega),if_neg hc]
    exact .inl ⟨_,rfl,rfl⟩) (s:=(b,[],0)) ⟨hb,by simp,by simp,by simp⟩ (by simp only;omega)
 rw[this]
 simp
def RH (h:Head):Int:=if Cv h.source h.number h.format=0 then (if h.count<0∨4096<h.count then 5 else 0) else Cv h.source h.number h.format
def Up (l:O Int):Head:=⟨nth l 0,nth l 1,nth l 2,nth l 3⟩
def nN (b:O uA):Head×O uA×Int :=
 if (jO b).2.2≠0 then (⟨0,0,0,0⟩,[],(jO b).2.2) else
 if (o6 4 (jO b).1).2≠0 then (⟨0,0,0,0⟩,[],(o6 4 (jO b).1).2) else
 if RH (Up (o6 4 (jO b).1).1)≠0 then (⟨0,0,0,0⟩,[],RH (Up (o6 4 (jO b).1).1)) else (Up (o6 4 (jO b).1).1,(jO b).2.1,0)
theorem LW (b:O uA) (hb:b.length<=100000):mQ b=some (nN b):=by
 unfold mQ nN
 have hl:=vB b
 rw[wx b (by omega)]
 simp only[Option.bind_some]
 by_cases e1:(jO b).2.2=0
 ·have g1:=HT (jO b).1 4 (by omega) (by omega)
  rw[if_neg (by simp[e1]),if_neg (by simp[e1])]
  have XY:iB (jO b).1 4=_:=g1
  rw[XY]
  simp only[Option.bind_some]
  by_cases e2:(o6 4 (jO b).1).2=0
  ·have hlen:=zA 4 _ e2
   simp only[e2,if_true,ne_eq,not_true_eq_false,if_false]
   rw[if_neg (by decide)]
   generalize (o6 4 (jO b).1).1=l at *
   rw[ae (by omega),ae (by omega),ae (by omega),Cw]
   simp only[Option.bind_some,show Int.toNat 0=0 from rfl,show Int.toNat 1=1 from rfl,show Int.toNat 2=2 from rfl,show Int.toNat 3=3 from rfl]
   unfold RH Up
   simp only
   by_cases e3:Cv (nth l 0) (nth l 1) (nth l 2)=0
   ·rw[if_neg (by simp[e3]),ae (by omega),ae (λ_=>by omega)]
    simp only[e3,if_true]
    by_cases e4:nth l 3<0∨4096<nth l 3
    ·rw[if_pos (by simpa using e4)]
     simp only[e4,if_true]
     rw[if_pos (by decide)]
    ·rw[if_neg (by simpa using e4),ae (by omega),ae (by omega),ae (by omega),ae (by omega)]
     simp only[e4,if_false]
     rw[if_neg (by decide)]
   ·rw[if_pos (by simpa using e3)]
    simp only[e3,if_false,not_false_eq_true,if_true]
  ·simp only[e2,if_false,ne_eq,not_false_eq_true,if_true]
   rw[if_pos (by simpa using e2)]
 ·rw[if_pos (by simpa using e1),if_pos e1]
def VU (l:O Int):cu:=⟨nth l 0,[0,nth l 1,nth l 2,nth l 3,nth l 4]⟩
def N1 (b:O uA):cu×Int :=
 if (jO b).2.2≠0 then (⟨0,[0,0,0,0,0]⟩,(jO b).2.2) else if (jO b).2.1.length > 0 then (⟨0,[0,0,0,0,0]⟩,3) else
 if (o6 5 (jO b).1).2≠0 then (⟨0,[0,0,0,0,0]⟩,(o6 5 (jO b).1).2) else (VU (o6 5 (jO b).1).1,0)
theorem Gx (b:O uA) (hb:b.length<=100000):jG b=some (N1 b):=by
 unfold jG N1
 have hl:=vB b
 rw[wx b (by omega)]
 simp only[Option.bind_some]
 by_cases e1:(jO b).2.2=0
 ·simp only[e1,ne_eq,not_true_eq_false,if_false]
  rw[if_neg (by decide)]
  by_cases e2:(jO b).2.1.length > 0
  ·rw[if_pos (by simp only[decide_eq_true_eq];omega),if_pos e2]
  ·rw[if_neg (by simp only[decide_eq_true_eq];omega),if_neg e2]
   have g1:iB (jO b).1 5=_:=HT (jO b).1 5 (by omega) (by omega)
   rw[g1]
   simp only[Option.bind_some]
   by_cases e3:(o6 5 (jO b).1).2=0
   ·have hlen:=zA 5 _ e3
    simp only[e3,if_true,ne_eq,not_true_eq_false,if_false]
    rw[if_neg (by decide)]
    rw[ae (by omega),ae (by omega),ae (by omega),ae (by omega),ae (by omega)]
    rfl
   ·simp only[e3,if_false,ne_eq,not_false_eq_true,if_true]
    rw[if_pos (by simpa using e3)]
 ·rw[if_pos (by simpa using e1),if_pos e1]
end Go.Proofs.Ytpdanklncjopoaa.C12
namespace Go.Proofs.Ytpdanklncjopoaa.C11
open Go.RowKit Go.Abs
def Jf (s:O uA) (i k:Nat):uA:=if k=0 then UInt8.ofNat s.length else if k<=i then nth s (k-1) - 48 else 0
def LX (s:O uA) (i:Nat):O uA:=(List.range 8).map λj=>Jf s i (2*j)*16+Jf s i (2*j+1)
def LY (s:O uA):O uA:=LX s s.length
theorem EP (s:O uA) (i:Nat):(LX s i).length=8:=by simp[LX]
theorem LZ {s:O uA} {i j:Nat} (h:j<8):nth (LX s i) j=Jf s i (2*j)*16+Jf s i (2*j+1):=by
 rw[eE (by rw[EP];exact h)]
 simp[LX]
def L0 (b:O uA):uA:=b.foldl (·+·) 0
theorem Gy {b:O uA} {i:Nat} (n:uA) (h:i<b.length):(b.drop i).foldl (·+·) n=(b.drop (i+1)).foldl (·+·) (n+nth b i):=by
 rw[eE h,List.drop_eq_getElem_cons h,List.foldl_cons]
theorem add_mod (n:Int) (x:uA) (h:0<=n):UInt8.ofInt ((n+(x.toNat:Int)) % 256)=UInt8.ofInt n+x:=by
 have e1:∀ m:Int,0<=m->UInt8.ofInt m=UInt8.ofNat m.toNat:=λm hm=>by
  apply UInt8.toNat_inj.1
  simp[UInt8.ofInt]
  omega
 rw[e1 _ (by omega),e1 n h]
 apply UInt8.toNat_inj.1
 simp only[UInt8.toNat_add,UInt8.toNat_ofNat']
 have:=x.toNat_lt
 omega
theorem Ra (b:O uA) (hb:b.length<=1000000000):qe b=some (L0 b):=by
 unfold qe
 refine cy (λs=>some ((b.drop s.2.toNat).foldl (·+·) (UInt8.ofInt s.1))) (λs:Int×Int=>0<=s.2/\s.2<=(b.length:Int)/\0<=s.1/\s.1<256) (λs=>((b.length:Int) - s.2).toNat) (λs hI=>?_) ⟨by omega,by omega,by omega,by omega⟩ (by simp;omega)
 obtain ⟨n,i⟩:=s
 simp only[] at hI ⊢
 unfold rn
 by_cases hi:i<(b.length:Int)
 ·have hx:=(nth b i.toNat).toNat_lt
  rw[if_pos (by simpa using hi),ae ⟨hI.1,hi⟩,ae (by omega),ae (by decide),ae (by omega),CI (by omega)]
  refine .inr ⟨_,rfl,⟨by simp only[];omega,by simp only[];omega,by simp only[];omega,by simp only[];omega⟩,by simp only[];omega,?_⟩
  rw[Gy _ (by omega:i.toNat<b.length),show (i+1).toNat=i.toNat+1 by omega]
  simp only[]
  rw[add_mod n _ hI.2.2.1]
 ·rw[if_neg (by simpa using hi)]
  refine .inl ⟨_,rfl,?_⟩
  rw[List.drop_of_length_le (by omega)];rfl
def Pf (r:aa):uA:=UInt8.ofInt (r.kind*16+((if r.last=true then 1 else 0)+(if r.aP=true then 2 else 0)))
def Pg (r:aa):O uA:=sR 1 r.source++sR 5 r.aF++[Pf r]++LY r.a++LY r.b
def HU (r:aa):O uA:=Pg r++sR 6 r.start++sR 7 r.aJ++sR 5 r.call++sR 1 r.part++sR 2 r.bh
def Gz (r:aa):O uA:=HU r++[L0 (HU r)]
theorem ER (s:O uA):(LY s).length=8:=EP _ _
def ig (f:O uA) (k:Nat):uA:=if k % 2=0 then nth f (k / 2) / 16 else nth f (k / 2) % 16
def oV (f:O uA):Nat:=(nth f 0).toNat / 16
def vC (f:List uA):Nat->Nat->List uA->List uA×Bool
 | _,0,out=>(out,true)
 | k,m+1,out=>if k<=oV f/\(ig f k).toNat<=9 then vC f (k+1) m (out++[48+ig f k]) else if k<=oV f∨ig f k≠0 then ([],false) else vC f (k+1) m out
def wy (f:O uA):O uA×Bool:=vC f 1 15 []
theorem XZ (x:uA):decide (x > 9)=decide (9<x.toNat):=by
 rw[Bool.eq_iff_iff,decide_eq_true_iff,decide_eq_true_iff,gt_iff_lt,UInt8.lt_iff_toNat_lt];exact Iff.rfl
theorem L1 (f:O uA) (hf:f.length=8):lY f=some (wy f):=by
 unfold lY
 rw[ae (by omega),ae (by decide)]
 refine cy (λs=>some (vC f s.2.toNat (16-s.2.toNat) s.1)) (λs:O uA×Int=>1<=s.2/\s.2<=16/\(s.1.length:Int)<=s.2) (λs=>(16-s.2).toNat) (λs hI=>?_) ⟨by omega,by omega,by simp⟩ (by simp)
 obtain ⟨out,i⟩:=s
 obtain ⟨h1,h2,h3⟩:=hI
 simp only[] at h1 h2 h3 ⊢
 unfold pG
 by_cases hi:i<=15
 ·rw[if_pos (by simpa using hi),CI (by omega),HR (by omega),ae (by omega),ae (by rw[hf];omega),ae (by decide),ae (by decide)]
  obtain ⟨m,hm⟩:∃ m,16-i.toNat=m+1:=⟨15-i.toNat,by omega⟩
  have OP:16-(i+1).toNat=m:=by omega
  have cP:(i+1).toNat=i.toNat+1:=by omega
  have main:∀ y:uA,y=ig f i.toNat->(∃ r,eJ f out i y=some (.inr r)/\some (vC f i.toNat (16-i.toNat) out)=some r)∨∃ s':O uA×Int,eJ f out i y=some (.inl s')/\(1<=s'.2/\s'.2<=16/\(s'.1.length:Int)<=s'.2)/\(16-s'.2).toNat<(16-i).toNat/\some (vC f s'.2.toNat (16-s'.2.toNat) s'.1)=some (vC f i.toNat (16-i.toNat) out):=by
   rintro y rfl
   unfold eJ
   rw[zx,XZ,hm,vC]
   have e1:(i<=(((nth f (Int.toNat 0)).toNat / 16:Nat):Int))↔i.toNat<=oV f:=by unfold oV;rw[show Int.toNat 0=0 from rfl];omega
   have e2:(i > (((nth f (Int.toNat 0)).toNat / 16:Nat):Int))↔¬ i.toNat<=oV f:=by rw[←e1];omega
   by_cases c1:i.toNat<=oV f
   ·by_cases c2:(ig f i.toNat).toNat<=9
    ·rw[if_neg (by simp only[Bool.or_eq_true,Bool.and_eq_true,decide_eq_true_eq];exact λh=>h.elim (λh=>by omega) (λh=>e2.1 h.1 c1)),if_pos (by simpa using e1.2 c1),if_pos ⟨c1,c2⟩,ae (by simp;omega),ae (by omega)]
     refine .inr ⟨_,rfl,⟨by simp only[];omega,by simp only[];omega,by simp;omega⟩,by simp only[];omega,?_⟩
     simp only[]
     rw[OP,cP]
    ·rw[if_pos (by simp only[Bool.or_eq_true,Bool.and_eq_true,decide_eq_true_eq];exact .inl ⟨e1.2 c1,by omega⟩),if_neg (λh=>c2 h.2),if_pos (.inl c1)]
     exact .inl ⟨_,rfl,rfl⟩
   ·rw[if_neg (λh:i.toNat<=oV f/\_=>c1 h.1)]
    by_cases c3:ig f i.toNat≠0
    ·rw[if_pos (by simp only[Bool.or_eq_true,Bool.and_eq_true,decide_eq_true_eq,bne_iff_ne];exact .inr ⟨e2.2 c1,c3⟩),if_pos (.inr c3)]
     exact .inl ⟨_,rfl,rfl⟩
    ·rw[if_neg (by simp only[Bool.or_eq_true,Bool.and_eq_true,decide_eq_true_eq,bne_iff_ne];exact λh=>h.elim (λh=>c1 (e1.1 h.1)) (λh=>c3 h.2)),if_neg (by simp only[decide_eq_true_eq];exact λh=>c1 (e1.1 h)),if_neg (λh=>h.elim c1 c3),ae (by omega)]
     refine .inr ⟨_,rfl,⟨by simp only[];omega,by simp only[];omega,by simp only[];omega⟩,by simp only[];omega,?_⟩
     simp only[]
     rw[OP,cP]
  by_cases hp:i % 2=1
  ·rw[if_pos (by simpa using hp),ae (by omega),ae (by rw[hf];omega),ae (by decide)]
   refine main _ ?_
   unfold ig
   rw[if_neg (by omega),show Int.toNat (i / 2)=i.toNat / 2 by omega]
  ·rw[if_neg (by simpa using hp)]
   refine main _ ?_
   unfold ig
   rw[if_pos (by omega),show Int.toNat (i / 2)=i.toNat / 2 by omega]
 ·have:i=16:=by omega
  subst this
  rw[if_neg (by simp)]
  exact .inl ⟨_,rfl,rfl⟩
theorem zB (f:O uA):∀ (m k:Nat) (out:O uA),(vC f k m out).1.length<=out.length+m
 | 0,k,out=>by simp[vC]
 | m+1,k,out=>by
  unfold vC
  split
  ·have:=zB f m (k+1) (out++[48+ig f k])
   simp at this ⊢;omega
  ·split
   ·simp
   ·have:=zB f m (k+1) out
    omega
theorem ES (f:O uA):(wy f).1.length<=15:=by have:=zB f 15 1 [];simpa [wy] using this
def Z:aa:=⟨0,0,0,[],[],0,0,0,0,false,0,false⟩
def cut (b:O uA) (i n:Nat):O uA:=(b.drop i).take n
def wz (b:O uA):aa:=⟨(g0 (cut b 0 1)).1,(g0 (cut b 1 5)).1,(((nth b 6).toNat / 16:Nat):Int),(wy (cut b 7 8)).1,(wy (cut b 15 8)).1,(g0 (cut b 23 6)).1,(g0 (cut b 29 7)).1,(g0 (cut b 36 5)).1,(g0 (cut b 41 1)).1,(nth b 6 % 2)==1,(g0 (cut b 42 2)).1,decide (nth b 6 % 16>=2)⟩
def Bp (b:O uA):Bool:=((g0 (cut b 0 1)).2==0) && ((g0 (cut b 1 5)).2==0) && (wy (cut b 7 8)).2 && (wy (cut b 15 8)).2 && ((g0 (cut b 23 6)).2==0) && ((g0 (cut b 29 7)).2==0) && ((g0 (cut b 36 5)).2==0) && ((g0 (cut b 41 1)).2==0) && ((g0 (cut b 42 2)).2==0) && decide (nth b 6 % 16<=3)
def jZ (b:O uA):aa×Int :=
 if b.length<45 then (Z,2) else if b.length > 45 then (Z,3) else if L0 (b.take 44)≠nth b 44 then (Z,4)
 else if Bp b=false then (Z,1) else if cr (wz b)≠0 then (Z,cr (wz b)) else (wz b,0)
theorem tg (b:O uA) (i j:Nat) (h:i<=j):(b.take j).drop i=cut b i (j-i):=by
 unfold cut
 rw[List.drop_take]
theorem ET (b:O uA) (hb:b.length<=100000):kW b=some (jZ b):=by
 unfold kW jZ
 by_cases h1:b.length<45
 ·rw[if_pos (by simp;omega),if_pos h1];rfl
 ·rw[if_neg (by simp;omega),if_neg h1]
  by_cases h2:b.length > 45
  ·rw[if_pos (by simp;omega),if_pos h2];rfl
  ·have hl:b.length=45:=by omega
   rw[if_neg (by simp;omega),if_neg h2,ae (by omega),Ra _ (by simp;omega)]
   simp only[Option.bind_some]
   rw[ae (by omega),show Int.toNat 44=44 from rfl]
   by_cases h3:L0 (b.take 44)≠nth b 44
   ·rw[if_pos (by simpa using h3),if_pos h3];rfl
   ·rw[if_neg (by simpa using h3),if_neg h3,ae (by omega),ae (by decide)]
    -- seven numbers,one after the other
    have nn:∀ (k i j:Nat) (ns:O Int) (ok:Bool),k<7->ns.length<=7->nth ([0,1,23,29,36,41,42]:O Int) k=(i:Int)->nth ([1,6,29,36,41,42,44]:O Int) k=(j:Int)->i<=j->j<=44 ->
      de b ns ok (k:Int)=some (.inl (ns++[(g0 (cut b i (j-i))).1],ok && ((g0 (cut b i (j-i))).2==0),(k:Int)+1)):=by
     intro k i j ns ok hk RE e1 e2 zZ hj
     unfold de
     rw[Int.toNat_natCast,e1,e2,if_pos (by simp;omega),ae (by simp;omega),ae (by simp;omega),ae (by omega),Int.toNat_natCast,Int.toNat_natCast,tg b i j zZ,Gv _ (by simp[cut];omega)]
     simp only[Option.bind_some]
     rw[ae (by simp;omega),ae (by omega)]
    have TH:∀ (n:Nat) (ns:O Int) (ok:Bool) (r:aa×Int),de b ns ok 7=some (.inr r)->iter (λs=>de b s.1 s.2.1 s.2.2) (n+1) (ns,ok,7)=some r:=by
     intro n ns ok r h
     unfold iter
     simp only[h]
    have one:∀ (n k i j:Nat) (ns:O Int) (ok:Bool),k<7->ns.length<=7->nth ([0,1,23,29,36,41,42]:O Int) k=(i:Int)->nth ([1,6,29,36,41,42,44]:O Int) k=(j:Int)->i<=j->j<=44 ->
      iter (λs=>de b s.1 s.2.1 s.2.2) (n+1) (ns,ok,(k:Int))=iter (λs=>de b s.1 s.2.1 s.2.2) n (ns++[(g0 (cut b i (j-i))).1],ok && ((g0 (cut b i (j-i))).2==0),((k+1:Nat):Int)):=by
     intro n k i j ns ok hk RE e1 e2 zZ hj
     conv=>lhs;unfold iter
     rw[nn k i j ns ok hk RE e1 e2 zZ hj]
     rfl
    unfold loop
    rw[show (18446744073709551616:Nat)=18446744073709551608+8 from rfl]
    have z:(([]:O Int),decide (nth b (Int.toNat 6) % 16<=3),(0:Int))=(([]:O Int),decide (nth b 6 % 16<=3),((0:Nat):Int)):=rfl
    rw[z,one _ 0 0 1 _ _ (by omega) (by simp) rfl rfl (by omega) (by omega),one _ 1 1 6 _ _ (by omega) (by simp) rfl rfl (by omega) (by omega),one _ 2 23 29 _ _ (by omega) (by simp) rfl rfl (by omega) (by omega),one _ 3 29 36 _ _ (by omega) (by simp) rfl rfl (by omega) (by omega),
     one _ 4 36 41 _ _ (by omega) (by simp) rfl rfl (by omega) (by omega),one _ 5 41 42 _ _ (by omega) (by simp) rfl rfl (by omega) (by omega),one _ 6 42 44 _ _ (by omega) (by simp) rfl rfl (by omega) (by omega)]
    refine TH _ _ _ _ ?_
    unfold de
    rw[if_neg (by simp)]
    unfold gJ
    simp only[List.nil_append,List.cons_append,Nat.reduceSub,Nat.reduceAdd]
    rw[ae (by omega),show Int.toNat 15=15 from rfl,show Int.toNat 7=7 from rfl,tg b 7 15 (by omega),L1 _ (by simp[cut];omega)]
    simp only[Option.bind_some,Nat.reduceSub]
    rw[ae (by omega),show Int.toNat 23=23 from rfl,tg b 15 23 (by omega),L1 _ (by simp[cut];omega)]
    simp only[Option.bind_some,Nat.reduceSub]
    have vJ:((!(decide (nth b 6 % 16<=3) && (g0 (cut b 0 1)).2==0 && (g0 (cut b 1 5)).2==0 && (g0 (cut b 23 6)).2==0 && (g0 (cut b 29 7)).2==0 && (g0 (cut b 36 5)).2==0 && (g0 (cut b 41 1)).2==0 && (g0 (cut b 42 2)).2==0)) || !(wy (cut b 7 8)).2 || !(wy (cut b 15 8)).2)=!Bp b:=by
     unfold Bp
     generalize decide (nth b 6 % 16<=3)=q0
     generalize ((g0 (cut b 0 1)).2==0)=q1
     generalize ((g0 (cut b 1 5)).2==0)=q2
     generalize (wy (cut b 7 8)).2=q3
     generalize (wy (cut b 15 8)).2=q4
     generalize ((g0 (cut b 23 6)).2==0)=q5
     generalize ((g0 (cut b 29 7)).2==0)=q6
     generalize ((g0 (cut b 36 5)).2==0)=q7
     generalize ((g0 (cut b 41 1)).2==0)=q8
     generalize ((g0 (cut b 42 2)).2==0)=q9
     cases q0<;>cases q1<;>cases q2<;>cases q3<;>cases q4<;>cases q5<;>cases q6<;>cases q7<;>cases q8<;>cases q9<;>rfl
    rw[vJ]
    by_cases hf:Bp b=false
    ·rw[if_pos (by simp[hf]),if_pos hf];rfl
    ·rw[if_neg (by simpa using hf),if_neg hf]
     rw[ae (by simp),ae (by simp),ae (by omega),ae (by decide),ae (by simp),ae (by simp),ae (by simp),ae (by simp),ae (by simp),ae (by omega),ae (by decide),ae (by omega),ae (by decide),zx]
     have VV:∀ x:aa,x=wz b->(eI x).bind (λy4=>if (y4 != 0)=true then some ((⟨0,0,0,([]:O uA),([]:O uA),0,0,0,0,false,0,false⟩:aa),y4) else some (x,0))=some (if cr (wz b)≠0 then (Z,cr (wz b)) else (wz b,0)):=by
      rintro x rfl
      rw[qt (wz b) (by have:=ES (cut b 7 8);simp only[wz];omega) (by have:=ES (cut b 15 8);simp only[wz];omega)]
      simp only[Option.bind_some]
      by_cases he:cr (wz b)≠0
      ·rw[if_pos (by simpa using he),if_pos he];rfl
      ·rw[if_neg (by simpa using he),if_neg he]
     exact (congrArg (Option.map λz=>Sum.inr z) (VV _ rfl)).trans rfl
theorem N2 (x:uA):(x / 16)*16+x % 16=x:=uI (p:=λx=>(x / 16)*16+x % 16=x) (by decide +kernel) x
theorem zC (f:O uA):∀ (m i:Nat) (s:O uA),vC f (i+1) m ((List.range (min i (oV f))).map λj=>48+ig f (j+1))=(s,true) ->
  s=(List.range (min (i+m) (oV f))).map (λj=>48+ig f (j+1))/\∀ j,i<j->j<=i+m->(j<=oV f->(ig f j).toNat<=9)/\(oV f<j->ig f j=0)
 | 0,i,s,h=>by
  rw[vC] at h
  exact ⟨(congrArg Prod.fst h).symm,λj h1 h2=>by omega⟩
 | m+1,i,s,h=>by
  rw[vC] at h
  by_cases h1:i+1<=oV f/\(ig f (i+1)).toNat<=9
  ·rw[if_pos h1,Nat.min_eq_left (by omega)] at h
   have e:(List.range i).map (λj=>48+ig f (j+1))++[48+ig f (i+1)]=(List.range (min (i+1) (oV f))).map (λj=>48+ig f (j+1)):=by
    rw[Nat.min_eq_left (by omega),List.range_succ,List.map_append];rfl
   rw[e] at h
   obtain ⟨e1,e2⟩:=zC f m (i+1) s h
   refine ⟨by rw[e1,show i+1+m=i+(m+1) by omega],λj h3 h4=>?_⟩
   by_cases hj:j=i+1
   ·subst hj;exact ⟨λ_=>h1.2,λh=>by omega⟩
   ·exact e2 j (by omega) (by omega)
  ·rw[if_neg h1] at h
   by_cases h2:i+1<=oV f∨ig f (i+1)≠0
   ·rw[if_pos h2] at h;cases h
   ·rw[if_neg h2] at h
    have hN:¬ i+1<=oV f:=λh=>h2 (.inl h)
    have h0:ig f (i+1)=0:=Decidable.byContradiction λh=>h2 (.inr h)
    have e:(List.range (min i (oV f))).map (λj=>48+ig f (j+1))=(List.range (min (i+1) (oV f))).map (λj=>48+ig f (j+1)):=by
     rw[show min i (oV f)=min (i+1) (oV f) by omega]
    rw[e] at h
    obtain ⟨e1,e2⟩:=zC f m (i+1) s h
    refine ⟨by rw[e1,show i+1+m=i+(m+1) by omega],λj h3 h4=>?_⟩
    by_cases hj:j=i+1
    ·subst hj;exact ⟨λh=>absurd h hN,λ_=>h0⟩
    ·exact e2 j (by omega) (by omega)
theorem TI (x:uA):(48:uA)+x-48=x:=uI (p:=λx=>(48:uA)+x-48=x) (by decide +kernel) x
theorem Bq {f s:O uA} (hf:f.length=8) (h:wy f=(s,true)):LY s=f:=by
 obtain ⟨e,hd⟩:=zC f 15 0 s (by simpa [wy] using h)
 have hN:oV f<=15:=by unfold oV;have:=(nth f 0).toNat_lt;omega
 rw[Nat.min_eq_right (by omega)] at e
 have hs:s.length=oV f:=by rw[e];simp
 have hn:∀ k,k<16->Jf s s.length k=ig f k:=by
  intro k hk
  unfold Jf
  by_cases h0:k=0
  ·subst h0
   rw[if_pos rfl,hs]
   apply UInt8.toNat_inj.1
   unfold ig oV
   rw[if_pos rfl,zx,show (0 / 2:Nat)=0 from rfl,UInt8.toNat_ofNat']
   have:=(nth f 0).toNat_lt;omega
  ·rw[if_neg h0]
   by_cases h1:k<=s.length
   ·rw[if_pos h1,eE (by omega)]
    simp only[e,List.getElem_map,List.getElem_range]
    rw[show k-1+1=k by omega,TI]
   ·rw[if_neg h1,(hd k (by omega) (by omega)).2 (by omega)]
 apply List.ext_getElem
 ·rw[ER,hf]
 ·intro j h1 h2
  have Bx:j<8:=by rw[ER] at h1;exact h1
  refine (eE h1).symm.trans (Eq.trans ?_ (eE h2))
  unfold LY
  rw[LZ Bx,hn _ (by omega),hn _ (by omega)]
  unfold ig
  rw[if_pos (by omega),if_neg (by omega),show 2*j / 2=j by omega,show (2*j+1) / 2=j by omega,N2]
theorem Rb {m:Int} (hm:0<=m) {x:uA} (h1:x.toNat / 16<=9) (h2:x.toNat % 16<=9):pk (100*m+((x.toNat / 16:Nat):Int)*10+((x.toNat % 16:Nat):Int))=x:=by
 apply UInt8.toNat_inj.1
 have:=Q9 (100*m+((x.toNat / 16:Nat):Int)*10+((x.toNat % 16:Nat):Int)) (by omega)
 omega
theorem EU:∀ (c:O uA) (m n:Int),0<=m->CJ m c=(n,0)->0<=n/\sR c.length n=c/\n / 100 ^ c.length=m
 | [],m,n,hm,h=>by
  rw[CJ] at h
  have:m=n:=congrArg Prod.fst h
  subst this
  exact ⟨hm,rfl,by simp⟩
 | x::r,m,n,hm,h=>by
  rw[CJ] at h
  split at h
  ·cases congrArg Prod.snd h
  ·rename_i hx
   obtain ⟨h1,h2,h3⟩:=EU r _ n (by omega) h
   refine ⟨h1,?_,?_⟩
   ·rw[List.length_cons,sR,h2,h3,Rb hm (by omega) (by omega)]
   ·rw[List.length_cons,←div_pow,h3];omega
theorem j9 {c:O uA} {k:Nat} (hc:c.length=k) (h:(g0 c).2=0):sR k (g0 c).1=c:=by
 unfold g0 at h ⊢
 split at h
 ·cases h
 ·rename_i h1
  rw[if_neg h1,←hc]
  exact (EU c 0 _ (by omega) (Prod.ext rfl h)).2.1
theorem Jg (x:uA):x % 16<=3->UInt8.ofInt (((x.toNat / 16:Nat):Int)*16+((if ((x % 2)==1)=true then 1 else 0)+(if decide (x % 16>=2)=true then 2 else 0)))=x :=
 uI (p:=λx=>x % 16<=3->UInt8.ofInt (((x.toNat / 16:Nat):Int)*16+((if ((x % 2)==1)=true then 1 else 0)+(if decide (x % 16>=2)=true then 2 else 0)))=x) (by decide +kernel) x
theorem EW {b:O uA} {i n:Nat} (h:i+n<=b.length):(cut b i n).length=n:=by simp[cut];omega
theorem iU (b:O uA) (i m n:Nat):cut b i m++cut b (i+m) n=cut b i (m+n):=by
 unfold cut
 rw[←List.drop_drop,←List.take_add]
theorem HV {b:O uA} {i:Nat} (h:i<b.length):[nth b i]=cut b i 1:=by
 unfold cut
 rw[eE h,List.drop_eq_getElem_cons h];rfl
theorem N3 (b:O uA):cut b 0 b.length=b:=by simp[cut]
theorem GA {b:O uA} (h:(jZ b).2=0):Gz (jZ b).1=b/\cr (jZ b).1=0:=by
 unfold jZ at h ⊢
 split at h;· cases h
 split at h;· cases h
 split at h;· cases h
 split at h;· cases h
 split at h;· exact absurd h (by assumption)
 rename_i h1 h2 h3 h4 h5
 rw[if_neg h1,if_neg h2,if_neg h3,if_neg h4,if_neg h5]
 have hl:b.length=45:=by omega
 refine ⟨?_,by simpa using h5⟩
 have VW:Bp b=true:=by simpa using h4
 unfold Bp at VW
 simp only[Bool.and_eq_true,beq_iff_eq,decide_eq_true_eq] at VW
 obtain ⟨⟨⟨⟨⟨⟨⟨⟨⟨f1,f2⟩,f3⟩,f4⟩,f5⟩,f6⟩,f7⟩,f8⟩,f9⟩,f10⟩:=VW
 have TJ:HU (wz b)=b.take 44:=by
  have e:∀ i n,i+n<=45->(cut b i n).length=n:=λi n h=>EW (by omega)
  unfold HU Pg
  simp only[wz]
  rw[j9 (e 0 1 (by omega)) f1,j9 (e 1 5 (by omega)) f2,j9 (e 23 6 (by omega)) f5,j9 (e 29 7 (by omega)) f6,j9 (e 36 5 (by omega)) f7,j9 (e 41 1 (by omega)) f8,j9 (e 42 2 (by omega)) f9,
   Bq (e 7 8 (by omega)) (Prod.ext rfl f3),Bq (e 15 8 (by omega)) (Prod.ext rfl f4)]
  unfold Pf
  simp only[]
  rw[Jg _ f10,HV (by omega)]
  rw[iU b 0 1,iU b 0 (1+5),iU b 0 (1+5+1),iU b 0 (1+5+1+8),iU b 0 (1+5+1+8+8),iU b 0 (1+5+1+8+8+6),iU b 0 (1+5+1+8+8+6+7),iU b 0 (1+5+1+8+8+6+7+5),iU b 0 (1+5+1+8+8+6+7+5+1)]
  rfl
 unfold Gz
 have Pt:L0 (b.take 44)=nth b 44:=Decidable.byContradiction h3
 rw[TJ,Pt,HV (by omega),show b.take 44=cut b 0 44 from rfl,iU b 0 44 1,show 44+1=b.length by omega,N3]
def vD (b:List uA):Nat->Nat->List aa
 | _,0=>[]
 | i,n+1=>if (jZ (cut b (i*45) 45)).2=0 then (jZ (cut b (i*45) 45)).1::vD b (i+1) n else vD b (i+1) n
def xe (b:List uA):Nat->Nat->List aj
 | _,0=>[]
 | i,n+1=>if (jZ (cut b (i*45) 45)).2=0 then xe b (i+1) n else ⟨0,0,i,(jZ (cut b (i*45) 45)).2⟩::xe b (i+1) n
theorem EX (b:O uA):∀ n i:Nat,(vD b i n).length<=n
 | 0,i=>by simp[vD]
 | n+1,i=>by
  have:=EX b n (i+1)
  unfold vD
  split
  ·simp;omega
  ·omega
theorem EY (b:O uA):∀ n i:Nat,(xe b i n).length<=n
 | 0,i=>by simp[xe]
 | n+1,i=>by
  have:=EY b n (i+1)
  unfold xe
  split
  ·omega
  ·simp;omega
def wA (b:O uA):O aa×O aj×Int :=
 if b.length % 45≠0 then ([],[],2) else if b.length / 45 > 4096 then ([],[],5) else (vD b 0 (b.length / 45),xe b 0 (b.length / 45),0)
theorem N4 (b:O uA) {i:Nat} (h:i<b.length / 45):(cut b (i*45) 45).length=45:=by
 simp[cut];omega
theorem N5 (b:O uA):(Int.tmod (b.length:Int) 45 != 0)=decide (b.length % 45≠0):=by
 rw[Bool.eq_iff_iff,decide_eq_true_iff,CI (by omega)]
 simp;omega
theorem HW (b:O uA):Int.tdiv (b.length:Int) 45=((b.length / 45:Nat):Int):=by
 rw[HR (by omega)];omega
theorem L2 (b:O uA) (hb:b.length<=100000):qf b=some (wA b):=by
 unfold qf wA
 rw[N5,HW,ae (by decide)]
 by_cases h1:b.length % 45≠0
 ·rw[if_pos (by simpa using h1),if_pos h1]
 ·rw[if_neg (by simpa using h1),if_neg h1,ae (by omega)]
  by_cases h2:b.length / 45 > 4096
  ·rw[if_pos (by simp;omega),if_pos h2]
  ·rw[if_neg (by simp;omega),if_neg h2]
   have:=cy (step:=λst=>nH b st.1 st.2.1 st.2.2)
    (λst:O aa×O aj×Int=>some (st.1++vD b st.2.2.toNat (b.length / 45-st.2.2.toNat),st.2.1++xe b st.2.2.toNat (b.length / 45-st.2.2.toNat),(0:Int)))
    (λst=>0<=st.2.2/\st.2.2<=((b.length / 45:Nat):Int)/\(st.1.length:Int)<=st.2.2/\(st.2.1.length:Int)<=st.2.2) (λst=>(((b.length / 45:Nat):Int) - st.2.2).toNat) (λst hI=>by
     obtain ⟨out,no,i⟩:=st
     obtain ⟨i0,i1,i2,i3⟩:=hI
     simp only at i0 i1 i2 i3 ⊢
     unfold nH
     rw[HW,ae (by omega)]
     by_cases hi:i<((b.length / 45:Nat):Int)
     ·rw[if_pos (by simpa using hi),ae (by omega),ae (by omega),ae (by omega),ae (by omega)]
      rw[show (Int.toNat (i*45))=i.toNat*45 by omega,show (Int.toNat ((i+1)*45))=i.toNat*45+45 by omega,tg b _ _ (by omega),show i.toNat*45+45-i.toNat*45=45 by omega]
      rw[ET _ (by rw[N4 b (by omega)];omega),Option.bind_some]
      rw[show b.length / 45-i.toNat=(b.length / 45-(i.toNat+1))+1 by omega]
      by_cases hd:(jZ (cut b (i.toNat*45) 45)).2=0
      ·rw[if_pos (by simp[hd]),ae (by simp;omega),ae (by omega)]
       refine .inr ⟨_,rfl,⟨by simp only;omega,by simp only;omega,by simp;omega,by simp only;omega⟩,by simp only;omega,?_⟩
       simp only
       rw[show (i+1).toNat=i.toNat+1 from by omega]
       simp[vD,xe,hd]
      ·rw[if_neg (by simpa using hd),ae (by simp;omega),ae (by omega)]
       refine .inr ⟨_,rfl,⟨by simp only;omega,by simp only;omega,by simp only;omega,by simp;omega⟩,by simp only;omega,?_⟩
       simp only
       rw[show (i+1).toNat=i.toNat+1 from by omega]
       simp[vD,xe,hd]
       omega
     ·rw[if_neg (by simpa using hi)]
      refine .inl ⟨_,rfl,?_⟩
      rw[show b.length / 45-i.toNat=0 by omega]
      simp[vD,xe]) (s:=([],[],0)) ⟨by simp,by simp;omega,by simp,by simp⟩ (by simp only;omega)
   rw[this]
   simp
end Go.Proofs.Ytpdanklncjopoaa.C11
namespace Go.Proofs.Ytpdanklncjopoaa.C10
open Go.RowKit Go.Abs
def sT (last:Int) (out:O Element) (b:O uA):O Element×Int :=
 if b.length=0 then (out,0) else if (nth b 0).toNat=0 then ([],6) else if ((nth b 0).toNat:Int)<=last then ([],9)
 else if b.length<2∨b.length-2<(nth b 1).toNat then ([],2)
 else sT (nth b 0).toNat (out++[⟨((nth b 0).toNat:Int),(b.drop 2).take (nth b 1).toNat⟩]) (b.drop (2+(nth b 1).toNat))
termination_by b.length
decreasing_by simp;omega
theorem EZ (b:O uA) (i j:Nat):(b.take j).drop i=(b.drop i).take (j-i):=List.drop_take
theorem zD (b:O uA) (i j:Nat) (h:i+j<b.length):nth (b.drop i) j=nth b (i+j):=by
 rw[eE (by simp;omega),eE h,List.getElem_drop]
theorem E0 (b:O uA) (hb:b.length<=1000000):iF b=some (sT 0 [] b):=by
 unfold iF
 have:=cy (step:=λst=>hG b st.1 st.2.1 st.2.2) (λst:O Element×Int×Int=>some (sT st.2.1 st.1 (b.drop st.2.2.toNat)))
  (λst=>0<=st.2.2/\st.2.2<=(b.length:Int)/\(st.1.length:Int)<=st.2.2) (λst=>((b.length:Int) - st.2.2).toNat) (λst hI=>by
   obtain ⟨out,last,i⟩:=st
   obtain ⟨i0,i1,i2⟩:=hI
   simp only at i0 i1 i2 ⊢
   unfold hG
   rw[sT]
   by_cases h0:i<(b.length:Int)
   ·have n0:nth (b.drop i.toNat) 0=nth b i.toNat:=by rw[zD _ _ _ (by omega)];rfl
    have e0:¬ (b.drop i.toNat).length=0:=by simp;omega
    rw[if_pos (by simpa using h0),if_neg e0,ae (by omega),n0]
    by_cases h1:(nth b i.toNat).toNat=0
    ·rw[if_pos (by simp[h1]),if_pos h1];exact .inl ⟨_,rfl,rfl⟩
    ·rw[if_neg (by simp;omega),if_neg h1]
     by_cases h2:((nth b i.toNat).toNat:Int)<=last
     ·rw[if_pos (by simpa using h2),if_pos h2];exact .inl ⟨_,rfl,rfl⟩
     ·rw[if_neg (by simpa using h2),if_neg h2]
      have t1:Int.toNat (i+1)=i.toNat+1:=by omega
      have t2:Int.toNat (i+2)=i.toNat+2:=by omega
      rw[t1,t2]
      have hn:=(nth b (i.toNat+1)).toNat_lt
      rw[ae (by omega),ae (by intro _;omega),ae (by intro _;omega),ae (by intro h;simp at h;omega),ae (by intro _;omega)]
      by_cases h3:i+1=(b.length:Int)∨(b.length:Int)<i+2+((nth b (i.toNat+1)).toNat:Int)
      ·have Pt:(b.drop i.toNat).length<2∨(b.drop i.toNat).length-2<(nth (b.drop i.toNat) 1).toNat:=by
        by_cases h4:i+1=(b.length:Int)
        ·left;simp;omega
        ·right
         rw[zD _ _ _ (by omega),List.length_drop]
         omega
       rw[if_pos (by simpa using h3),if_pos Pt];exact .inl ⟨_,rfl,rfl⟩
      ·have n1:nth (b.drop i.toNat) 1=nth b (i.toNat+1):=by rw[zD _ _ _ (by omega)]
       have Pt:¬((b.drop i.toNat).length<2∨(b.drop i.toNat).length-2<(nth (b.drop i.toNat) 1).toNat):=by
        rw[n1,List.length_drop];omega
       have t3:Int.toNat (i+2+((nth b (i.toNat+1)).toNat:Int))=i.toNat+2+(nth b (i.toNat+1)).toNat:=by omega
       rw[if_neg (by simpa using h3),if_neg Pt,n1,t3,ae (by omega),ae (by omega),ae (by omega),ae (by omega),ae (by omega),ae (by omega),ae (by simp;omega),ae (by simp;omega),ae (by omega),ae (by omega)]
       refine .inr ⟨_,rfl,⟨by simp only;omega,by simp only;omega,by simp;omega⟩,by simp only;omega,?_⟩
       simp only
       rw[t3,EZ,show i.toNat+2+(nth b (i.toNat+1)).toNat-(i.toNat+2)=(nth b (i.toNat+1)).toNat by omega,List.drop_drop,List.drop_drop,Nat.add_assoc i.toNat 2]
   ·rw[if_neg (by simpa using h0),if_pos (by simp;omega)];exact .inl ⟨_,rfl,rfl⟩) (s:=([],0,0)) ⟨by simp,by simp,by simp⟩ (by simp only;omega)
 rw[this]
 simp
def VX:Int->List Element->Prop
 | _,[]=>True
 | last,x::r=>1<=x.tag/\x.tag<=255/\last<x.tag/\x.value.length<=255/\VX x.tag r
def Rc:List Element->List uA
 | []=>[]
 | x::r=>[UInt8.ofInt x.tag,UInt8.ofInt (x.value.length:Int)]++x.value++Rc r
theorem byte_back {n:Int} (h:0<=n/\n<=255):((UInt8.ofInt n).toNat:Int)=n:=by
 have key:∀ x:Fin 256,((UInt8.ofInt (x.val:Int)).toNat:Int)=(x.val:Int):=by decide +kernel
 have:=key ⟨n.toNat,by omega⟩
 simp only[Int.toNat_of_nonneg h.1] at this
 exact this
theorem L3 (x:uA):UInt8.ofInt (x.toNat:Int)=x:=by
 apply UInt8.toNat_inj.1
 have:=byte_back (n:=(x.toNat:Int)) (by have:=x.toNat_lt;omega)
 omega
theorem E1:∀ (n:Nat) (b:List uA) (last:Int) (out:List Element),b.length<=n->0<=last->(sT last out b).2=0->∃ l,(sT last out b).1=out++l/\VX last l/\Rc l=b
 | n,b,last,out,hn,hl,h=>by
  rw[sT] at h ⊢
  by_cases h0:b.length=0
  ·rw[if_pos h0]
   exact ⟨[],by simp,trivial,by rw[List.length_eq_zero_iff] at h0;rw[h0];rfl⟩
  ·rw[if_neg h0] at h ⊢
   split at h;· cases h
   rename_i h1
   rw[if_neg h1]
   split at h;· cases h
   rename_i h2
   rw[if_neg h2]
   split at h;· cases h
   rename_i h3
   rw[if_neg h3]
   obtain ⟨n,rfl⟩:∃ m,n=m+1:=⟨n-1,by omega⟩
   obtain ⟨l,e1,e2,e3⟩:=E1 n _ _ _ (by rw[List.length_drop];omega) (by omega) h
   have Uq:=(nth b 0).toNat_lt
   have Jz:=(nth b 1).toNat_lt
   have dO:((b.drop 2).take (nth b 1).toNat).length=(nth b 1).toNat:=by simp;omega
   refine ⟨⟨((nth b 0).toNat:Int),(b.drop 2).take (nth b 1).toNat⟩::l,by rw[e1];simp,⟨by simp only;omega,by simp only;omega,by simp only;omega,by simp only;omega,e2⟩,?_⟩
   rw[Rc,e3]
   simp only[dO,L3]
   have:b=[nth b 0,nth b 1]++((b.drop 2).take (nth b 1).toNat++(b.drop 2).drop (nth b 1).toNat):=by
    rw[List.take_append_drop,eE (show 0<b.length by omega),eE (show 1<b.length by omega)]
    match b,h3 with
    | x::y::r,_=>rfl
    | [x],h3=>simp at h3
    | [],h3=>simp at h3
   conv=>rhs;rw[this]
   rw[List.drop_drop,List.append_assoc]
theorem Rd (k:Nat):(256:Int) ^ (k+1)=256 ^ k*256:=Int.pow_succ _ _
theorem uI {p:uA->Prop} (h:∀ n:Fin 256,p (UInt8.ofNat n.val)) (x:uA):p x:=by
 have:=h ⟨x.toNat,x.toNat_lt⟩
 simpa using this
theorem TK (x:uA):np x 4=x / 16:=uI (p:=λx=>np x 4=x / 16) (by decide +kernel) x
theorem TM (x:uA):x &&& 15=x % 16:=uI (p:=λx=>x &&& 15=x % 16) (by decide +kernel) x
def vE:List uA->List uA
 | []=>[]
 | x::r=>if x % 16≠15∨r≠[] then [48+x / 16]++[48+x % 16]++vE r else [48+x / 16]
def E2 (s:O uA):O uA×Int:=if js s=true then (s,0) else ([],12)
def zE (b:O uA):O uA×Int:=E2 (vE b)
theorem CK:∀ b:O uA,2*b.length<=(vE b).length+1/\(vE b).length<=2*b.length
 | []=>by simp[vE]
 | x::r=>by
  have:=CK r
  unfold vE
  split
  ·simp;omega
  ·rename_i h
   have hr:r=[]:=Decidable.byContradiction λh'=>h (.inr h')
   subst hr;simp
theorem HX {b:O uA} {i:Int} (h0:0<=i) (hi:i<(b.length:Int)):(b.drop (i.toNat+1)≠[])↔i<(b.length:Int) - 1:=by
 rw[ne_eq,List.drop_eq_nil_iff];omega
theorem wB {s:O uA} (h:15<s.length):E2 s=([],12):=by
 unfold E2
 rw[if_neg]
 intro hv
 have:=mg hv
 omega
theorem Jh (b:O uA) (hb:b.length<=100000):kG b=some (zE b):=by
 have hj:∀ s:O uA,s.length<=1000000->(E2 s=([],12)∨(2*b.length<=s.length+1))->fi b s=some (E2 s):=by
  intro s hs h
  unfold fi
  rw[zc s (by omega),Option.bind_some,ae (by intro _;omega),ae (by intro _;omega)]
  unfold E2 at h ⊢
  cases hv:js s with
  | false=>rfl
  | true =>
   rw[hv] at h
   rcases h with h|h
   ·simp at h
   ·rw[if_neg (by simp;omega)];rfl
 unfold kG
 by_cases hl:b.length<=16
 ·have:=cy (step:=λst=>fj b st.1 st.2) (λst:O uA×Int=>some (E2 (st.1++vE (b.drop st.2.toNat)))) (λst=>0<=st.2/\st.2<=(b.length:Int)/\(st.1.length:Int)<=2*st.2/\(2*b.length<=st.1.length+(vE (b.drop st.2.toNat)).length+1)) (λst=>((b.length:Int) - st.2).toNat) (λst hI=>by
   obtain ⟨s,i⟩:=st
   obtain ⟨i0,i1,i2,i3⟩:=hI
   simp only at i0 i1 i2 i3 ⊢
   unfold fj
   by_cases hi:i<(b.length:Int)
   ·rw[if_pos (by simp;omega),ae (by omega),ae (by decide),ae (by omega),ae (by simp;omega),ae (by intro _;omega),cR (show i.toNat<b.length by omega),vE,TK,TM]
    rw[cR (show i.toNat<b.length by omega),vE] at i3
    by_cases hc:nth b i.toNat % 16≠15∨b.drop (i.toNat+1)≠[]
    ·have kn:((nth b i.toNat % 16 != 15) || decide (i<(b.length:Int) - 1))=true:=by
      rw[HX i0 hi] at hc;simpa using hc
     rw[if_pos kn,if_pos hc,ae (by simp;omega),ae (by omega)]
     rw[if_pos hc] at i3
     refine .inr ⟨_,rfl,⟨by simp only;omega,by simp only;omega,by simp;omega,?_⟩,by simp only;omega,?_⟩
     ·simp only
      rw[show (i+1).toNat=i.toNat+1 by omega]
      simp at i3 ⊢;omega
     ·simp only
      rw[show (i+1).toNat=i.toNat+1 by omega]
      simp
    ·have kn:¬ ((nth b i.toNat % 16 != 15) || decide (i<(b.length:Int) - 1))=true:=by
      rw[HX i0 hi] at hc;simpa using hc
     rw[if_neg kn,if_neg hc,ae (by omega)]
     rw[if_neg hc] at i3
     have hd:b.drop (i.toNat+1)=[]:=Decidable.byContradiction λh=>hc (.inr h)
     refine .inr ⟨_,rfl,⟨by simp only;omega,by simp only;omega,by simp;omega,?_⟩,by simp only;omega,?_⟩
     ·simp only
      rw[show (i+1).toNat=i.toNat+1 by omega,hd]
      simp[vE] at i3 ⊢;omega
     ·simp only
      rw[show (i+1).toNat=i.toNat+1 by omega,hd]
      simp[vE]
   ·rw[if_neg (by simp;omega)]
    rw[List.drop_of_length_le (by omega)] at i3 ⊢
    rw[hj s (by omega) (.inr (by simp[vE] at i3;omega))]
    exact .inl ⟨_,rfl,by simp[vE]⟩) (s:=([],0)) ⟨by simp,by simp,by simp,by have:=CK b;simp;omega⟩ (by simp only;omega)
  rw[this]
  simp[zE]
 ·have hF:zE b=([],12):=wB (by have:=CK b;omega)
  obtain ⟨r,h1,h2⟩:=ka (step:=λst=>fj b st.1 st.2) (λr=>r=(([]:O uA),(12:Int))) (λst:O uA×Int=>0<=st.2/\st.2<=16/\(st.1.length:Int)=2*st.2) (λst=>(16-st.2).toNat) (λst hI=>by
   obtain ⟨s,i⟩:=st
   obtain ⟨i0,i1,i2⟩:=hI
   simp only at i0 i1 i2 ⊢
   unfold fj
   by_cases hi:i<=15
   ·rw[if_pos (by simp;omega),ae (by omega),ae (by decide),ae (by omega),ae (by simp;omega),ae (by intro _;omega),if_pos (by simp;omega),ae (by simp;omega),ae (by omega)]
    exact .inr ⟨_,rfl,⟨by simp only;omega,by simp only;omega,by simp;omega⟩,by simp only;omega⟩
   ·rw[if_neg (by simp;omega),hj s (by omega) (.inl (wB (by omega))),wB (by omega)]
    exact .inl ⟨_,rfl,rfl⟩) (s:=([],0)) ⟨by simp,by simp,by simp⟩ (by simp)
  rw[h1,h2,hF]
def qC:Int->List uA->Int
 | n,[]=>n
 | n,x::r=>qC (n*256+(x.toNat:Int)) r
def E3 (v:O uA):Bool:=((decide ((v.length:Int)<1)) || (decide ((v.length:Int) > 6))) || (nth v 0==0)
def dL (v:O uA):Int:=if E3 v=true then -1 else qC 0 v
theorem N6 {k:Nat} (h:k<=6):(256:Int) ^ k<=281474976710656:=by
 have:∀ j:Fin 7,(256:Int) ^ j.val<=281474976710656:=by decide +kernel
 exact this ⟨k,by omega⟩
theorem Ji (v:O uA) (hv:v.length<=100000):kH v=some (dL v):=by
 unfold kH dL E3
 rw[show Int.toNat 0=0 from rfl,ae (by intro h;simp at h;omega)]
 by_cases hb:(((decide ((v.length:Int)<1)) || (decide ((v.length:Int) > 6))) || (nth v 0==0))=true
 ·rw[if_pos hb,if_pos hb]
 ·rw[if_neg hb,if_neg hb]
  simp at hb
  have:=cy (step:=λst=>jS v st.1 st.2) (λst:Int×Int=>some (qC st.1 (v.drop st.2.toNat))) (λst=>0<=st.2/\st.2<=(v.length:Int)/\0<=st.1/\st.1<256 ^ st.2.toNat) (λst=>((v.length:Int) - st.2).toNat) (λst hI=>by
   obtain ⟨n,i⟩:=st
   obtain ⟨i0,i1,i2,i3⟩:=hI
   simp only at i0 i1 i2 i3 ⊢
   unfold jS
   have hp:=N6 (k:=i.toNat) (by omega)
   by_cases hi:i<(v.length:Int)
   ·have hx:=(nth v i.toNat).toNat_lt
    rw[if_pos (by simpa using hi),ae (by omega),ae (by omega),ae (by omega),ae (by omega),cR (show i.toNat<v.length by omega),qC]
    refine .inr ⟨_,rfl,⟨by simp only;omega,by simp only;omega,by simp only;omega,?_⟩,by simp only;omega,?_⟩
    ·simp only
     rw[show (i+1).toNat=i.toNat+1 by omega,Rd]
     omega
    ·simp only
     rw[show (i+1).toNat=i.toNat+1 by omega]
   ·rw[if_neg (by simpa using hi),List.drop_of_length_le (by omega)]
    exact .inl ⟨_,rfl,rfl⟩) (s:=(0,0)) ⟨by simp,by simp,by simp,by simp⟩ (by simp only;omega)
  rw[this];rfl
def Z:aa:=⟨0,0,0,[],[],0,0,0,0,false,0,false⟩
def Br (v:O uA):Bool:=decide (v.length=1) && decide (1<=(nth v 0).toNat) && decide ((nth v 0).toNat<=3)
def GB (r:aa) (x:Element):J aa :=
 if x.tag=4 then (if (zE x.value).2=0 then some { r with a:=(zE x.value).1 } else none)
 else if x.tag=5 then (if (zE x.value).2=0 then some { r with b:=(zE x.value).1 } else none)
 else if x.tag=11 then (if Br x.value=true then some { r with last:=(nth x.value 0 % 2==1),aP:=decide (nth x.value 0>=2) } else none)
 else if E3 x.value=true then none
 else if x.tag=1 then some { r with kind:=qC 0 x.value }
 else if x.tag=2 then some { r with source:=qC 0 x.value }
 else if x.tag=3 then some { r with aF:=qC 0 x.value }
 else if x.tag=6 then some { r with start:=qC 0 x.value }
 else if x.tag=7 then some { r with aJ:=qC 0 x.value }
 else if x.tag=8 then some { r with call:=qC 0 x.value }
 else if x.tag=9 then some { r with part:=qC 0 x.value }
 else if x.tag=10 then some { r with bh:=qC 0 x.value }
 else none
theorem E4:∀ (v:O uA) (n:Int),0<n->0<qC n v
 | [],n,h=>h
 | x::r,n,h=>by rw[qC];exact E4 r _ (by omega)
theorem N7 {v:List uA} (h:E3 v=false):0<qC 0 v:=by
 unfold E3 at h
 match v,h with
 | [],h=>simp at h
 | x::r,h =>
  have hx:nth (x::r) 0=x:=rfl
  rw[hx] at h
  have:x≠0:=by rintro rfl;simp at h
  have h0:0<x.toNat:=Nat.pos_of_ne_zero λe=>this (UInt8.toNat_inj.1 (by rw[e];rfl))
  rw[qC]
  exact E4 r _ (by omega)
theorem L4 (v:List uA):((((v.length:Int)==1) && decide (dL v>=1)) && decide (dL v<=3))=Br v:=by
 unfold Br
 by_cases hl:v.length=1
 ·match v,hl with
  | [x],_ =>
   have hx:nth [x] 0=x:=rfl
   unfold dL E3
   rw[hx]
   by_cases h0:x=0
   ·subst h0;rfl
   ·have h1:¬(((decide ((([x]:List uA).length:Int)<1)) || (decide ((([x]:List uA).length:Int) > 6))) || (x==0))=true:=by simp[h0]
    rw[if_neg h1]
    simp only[qC]
    rw[Bool.eq_iff_iff]
    simp only[Bool.and_eq_true,decide_eq_true_eq,beq_iff_eq,List.length_cons,List.length_nil,Int.zero_mul,Int.zero_add]
    exact ⟨λh=>⟨⟨trivial,by omega⟩,by omega⟩,λh=>⟨⟨rfl,by omega⟩,by omega⟩⟩
 ·have:((v.length:Int)==1)=false:=by simp;omega
  rw[this];simp[hl]
theorem E5 {v:List uA} (h:Br v=true):(Int.tmod (dL v) 2==1)=(nth v 0 % 2==1)/\decide (dL v>=2)=decide (nth v 0>=2):=by
 unfold Br at h
 simp only[Bool.and_eq_true,decide_eq_true_eq] at h
 obtain ⟨⟨h1,h2⟩,h3⟩:=h
 match v,h1 with
 | [x],_ =>
  have hx:nth [x] 0=x:=rfl
  rw[hx] at h2 h3 ⊢
  have h0:x≠0:=by rintro rfl;simp at h2
  have hn:dL [x]=(x.toNat:Int):=by
   unfold dL E3
   rw[if_neg (by simp[hx,h0])]
   simp[qC]
  rw[hn]
  have key:∀ x:uA,x.toNat<=3->(Int.tmod (x.toNat:Int) 2==1)=(x % 2==1)/\decide ((x.toNat:Int)>=2)=decide (x>=2):=uI (by decide +kernel)
  exact key x h3
theorem N8 (b:O uA):(zE b).1.length<=15:=by
 unfold zE E2
 split
 ·rename_i h;exact mg h
 ·simp
def xH (r:aa):Prop:=r.a.length<=15/\r.b.length<=15
theorem L5 (r:aa) (x:Element) (hx:x.value.length<=100000) (ht:1<=x.tag) (hs:xH r):∃ r' ok,mU r x=some (r',ok)/\xH r'/\((ok=true/\GB r x=some r')∨(ok=false/\GB r x=none)):=by
 unfold mU
 have hu:=N8 x.value
 by_cases N9:x.tag=4∨x.tag=5
 ·rw[if_pos (by simpa using N9),Jh _ hx,Option.bind_some]
  unfold fS GB
  by_cases h4:x.tag=4
  ·rw[if_pos (by simpa using h4),if_pos h4]
   refine ⟨_,_,rfl,⟨hu,hs.2⟩,?_⟩
   by_cases he:(zE x.value).2=0
   ·rw[if_pos he];exact .inl ⟨by simpa using he,rfl⟩
   ·rw[if_neg he];exact .inr ⟨by simpa using he,rfl⟩
  ·have h5:x.tag=5:=by omega
   rw[if_neg (by simpa using h4),if_neg h4,if_pos h5]
   refine ⟨_,_,rfl,⟨hs.1,hu⟩,?_⟩
   by_cases he:(zE x.value).2=0
   ·rw[if_pos he];exact .inl ⟨by simpa using he,rfl⟩
   ·rw[if_neg he];exact .inr ⟨by simpa using he,rfl⟩
 ·rw[if_neg (by simpa using N9),Ji _ hx,Option.bind_some]
  unfold GB
  rw[if_neg (λh=>N9 (.inl h)),if_neg (λh=>N9 (.inr h))]
  by_cases TN:x.tag=11
  ·rw[if_pos TN,TN]
   rw[if_neg (by decide),if_neg (by decide),if_neg (by decide),if_neg (by decide),if_neg (by decide),if_neg (by decide),if_neg (by decide),if_neg (by decide),if_pos (by decide),ae (by decide),L4]
   refine ⟨_,_,rfl,hs,?_⟩
   by_cases hf:Br x.value=true
   ·rw[if_pos hf,(E5 hf).1,(E5 hf).2];exact .inl ⟨hf,rfl⟩
   ·rw[if_neg hf];exact .inr ⟨by simpa using hf,rfl⟩
  ·rw[if_neg TN]
   unfold cj
   cases hb:E3 x.value with
   | true =>
    rw[if_pos rfl]
    have hn:dL x.value=-1:=by unfold dL;rw[if_pos hb]
    rw[hn]
    by_cases h1:x.tag=1
    ·rw[if_pos (show (x.tag==1)=true by simpa using h1)];exact ⟨_,_,rfl,hs,.inr ⟨rfl,rfl⟩⟩
    rw[if_neg (show ¬ (x.tag==1)=true by simpa using h1)]
    by_cases h2:x.tag=2
    ·rw[if_pos (show (x.tag==2)=true by simpa using h2)];exact ⟨_,_,rfl,hs,.inr ⟨rfl,rfl⟩⟩
    rw[if_neg (show ¬ (x.tag==2)=true by simpa using h2)]
    by_cases h3:x.tag=3
    ·rw[if_pos (show (x.tag==3)=true by simpa using h3)];exact ⟨_,_,rfl,hs,.inr ⟨rfl,rfl⟩⟩
    rw[if_neg (show ¬ (x.tag==3)=true by simpa using h3)]
    by_cases h6:x.tag=6
    ·rw[if_pos (show (x.tag==6)=true by simpa using h6)];exact ⟨_,_,rfl,hs,.inr ⟨rfl,rfl⟩⟩
    rw[if_neg (show ¬ (x.tag==6)=true by simpa using h6)]
    by_cases h7:x.tag=7
    ·rw[if_pos (show (x.tag==7)=true by simpa using h7)];exact ⟨_,_,rfl,hs,.inr ⟨rfl,rfl⟩⟩
    rw[if_neg (show ¬ (x.tag==7)=true by simpa using h7)]
    by_cases h8:x.tag=8
    ·rw[if_pos (show (x.tag==8)=true by simpa using h8)];exact ⟨_,_,rfl,hs,.inr ⟨rfl,rfl⟩⟩
    rw[if_neg (show ¬ (x.tag==8)=true by simpa using h8)]
    by_cases h9:x.tag=9
    ·rw[if_pos (show (x.tag==9)=true by simpa using h9)];exact ⟨_,_,rfl,hs,.inr ⟨rfl,rfl⟩⟩
    rw[if_neg (show ¬ (x.tag==9)=true by simpa using h9)]
    by_cases wR:x.tag=10
    ·rw[if_pos (show (x.tag==10)=true by simpa using wR)];exact ⟨_,_,rfl,hs,.inr ⟨rfl,rfl⟩⟩
    rw[if_neg (show ¬ (x.tag==10)=true by simpa using wR)]
    rw[if_neg (by simpa using TN)]
    exact ⟨_,_,rfl,hs,.inr ⟨rfl,rfl⟩⟩
   | false =>
    have hn:dL x.value=qC 0 x.value:=by unfold dL;rw[if_neg (by simp[hb])]
    have hp:=N7 hb
    rw[hn]
    have hd:decide (qC 0 x.value > 0)=true:=by simpa using hp
    rw[if_neg (show ¬ false=true by simp)]
    by_cases h1:x.tag=1
    ·rw[if_pos (show (x.tag==1)=true by simpa using h1),if_pos h1];exact ⟨_,_,rfl,hs,.inl ⟨by rw[hd,h1];rfl,rfl⟩⟩
    rw[if_neg (show ¬ (x.tag==1)=true by simpa using h1),if_neg h1]
    by_cases h2:x.tag=2
    ·rw[if_pos (show (x.tag==2)=true by simpa using h2),if_pos h2];exact ⟨_,_,rfl,hs,.inl ⟨by rw[hd,h2];rfl,rfl⟩⟩
    rw[if_neg (show ¬ (x.tag==2)=true by simpa using h2),if_neg h2]
    by_cases h3:x.tag=3
    ·rw[if_pos (show (x.tag==3)=true by simpa using h3),if_pos h3];exact ⟨_,_,rfl,hs,.inl ⟨by rw[hd,h3];rfl,rfl⟩⟩
    rw[if_neg (show ¬ (x.tag==3)=true by simpa using h3),if_neg h3]
    by_cases h6:x.tag=6
    ·rw[if_pos (show (x.tag==6)=true by simpa using h6),if_pos h6];exact ⟨_,_,rfl,hs,.inl ⟨by rw[hd,h6];rfl,rfl⟩⟩
    rw[if_neg (show ¬ (x.tag==6)=true by simpa using h6),if_neg h6]
    by_cases h7:x.tag=7
    ·rw[if_pos (show (x.tag==7)=true by simpa using h7),if_pos h7];exact ⟨_,_,rfl,hs,.inl ⟨by rw[hd,h7];rfl,rfl⟩⟩
    rw[if_neg (show ¬ (x.tag==7)=true by simpa using h7),if_neg h7]
    by_cases h8:x.tag=8
    ·rw[if_pos (show (x.tag==8)=true by simpa using h8),if_pos h8];exact ⟨_,_,rfl,hs,.inl ⟨by rw[hd,h8];rfl,rfl⟩⟩
    rw[if_neg (show ¬ (x.tag==8)=true by simpa using h8),if_neg h8]
    by_cases h9:x.tag=9
    ·rw[if_pos (show (x.tag==9)=true by simpa using h9),if_pos h9];exact ⟨_,_,rfl,hs,.inl ⟨by rw[hd,h9];rfl,rfl⟩⟩
    rw[if_neg (show ¬ (x.tag==9)=true by simpa using h9),if_neg h9]
    by_cases wR:x.tag=10
    ·rw[if_pos (show (x.tag==10)=true by simpa using wR),if_pos wR];exact ⟨_,_,rfl,hs,.inl ⟨by rw[hd,wR];rfl,rfl⟩⟩
    rw[if_neg (show ¬ (x.tag==10)=true by simpa using wR),if_neg wR]
    rw[if_neg (show ¬ (x.tag==11)=true by simpa using TN)]
    by_cases hg:x.tag<=11
    ·omega
    ·exact ⟨_,_,rfl,hs,.inr ⟨by simp[hg],rfl⟩⟩
def E6:aa->List Element->Option aa
 | r,[]=>some r
 | r,x::l=>match GB r x with
  | some r'=>E6 r' l
  | none=>none
def Oa (r:aa):aa×Int:=if cr r≠0 then (Z,cr r) else (r,0)
def xf (ok:Bool) (r:aa) (l:List Element):aa×Int:=if ok=true then (match E6 r l with
 | some r'=>Oa r'
 | none=>(Z,1)) else (Z,1)
theorem L6 (r:aa):xf true r []=Oa r:=rfl
theorem Jj {r r':aa} {x:Element} {l:O Element} (h:GB r x=some r'):xf true r (x::l)=xf true r' l:=by
 unfold xf;rw[E6,h]
theorem Jk {r:aa} {x:Element} {l:O Element} (h:GB r x=none):xf true r (x::l)=(Z,1):=by
 unfold xf;rw[E6,h];rfl
def ki (b:O uA):Nat:=(nth b 0).toNat*256+(nth b 1).toNat
def xg (b:O uA):aa×Int :=
 if b.length<2∨b.length-2<ki b then (Z,2) else if b.length-2 > ki b then (Z,3)
 else if (sT 0 [] (b.drop 2)).2≠0 then (Z,(sT 0 [] (b.drop 2)).2) else xf true Z (sT 0 [] (b.drop 2)).1
theorem HY:∀ (l:O Element) (last:Int),VX last l->0<=last->∀ x,x∈l->1<=x.tag/\x.value.length<=255
 | [],_,_,_,x,hx=>by cases hx
 | a::l,last,h,h0,x,hx=>by
  rcases List.mem_cons.1 hx with e|e
  ·subst e;exact ⟨h.1,h.2.2.2.1⟩
  ·exact HY l a.tag h.2.2.2.2 (by have:=h.1;omega) x e
def Ph (t:Int×Int×Int×O uA×O uA×Int×Int×Int×Int×Bool×Int×Bool):aa :=
 ⟨t.1,t.2.1,t.2.2.1,t.2.2.2.1,t.2.2.2.2.1,t.2.2.2.2.2.1,t.2.2.2.2.2.2.1,t.2.2.2.2.2.2.2.1,t.2.2.2.2.2.2.2.2.1,t.2.2.2.2.2.2.2.2.2.1,t.2.2.2.2.2.2.2.2.2.2.1,t.2.2.2.2.2.2.2.2.2.2.2⟩
theorem L7 (y:O Element×Int) (hl:y.1.length<=1000000) (hm:∀ x,x∈y.1->1<=x.tag/\x.value.length<=255) :
  loop (λs=>gI y s.1 s.2.1 s.2.2.1 s.2.2.2.1 s.2.2.2.2.1 s.2.2.2.2.2.1 s.2.2.2.2.2.2.1 s.2.2.2.2.2.2.2.1 s.2.2.2.2.2.2.2.2.1 s.2.2.2.2.2.2.2.2.2.1 s.2.2.2.2.2.2.2.2.2.2.1 s.2.2.2.2.2.2.2.2.2.2.2.1 s.2.2.2.2.2.2.2.2.2.2.2.2.1 s.2.2.2.2.2.2.2.2.2.2.2.2.2) (true,0,0,0,0,([]:O uA),([]:O uA),0,0,0,0,false,0,false)=some (xf true Z y.1):=by
 have:=cy (step:=λs:Bool×Int×Int×Int×Int×O uA×O uA×Int×Int×Int×Int×Bool×Int×Bool=>gI y s.1 s.2.1 s.2.2.1 s.2.2.2.1 s.2.2.2.2.1 s.2.2.2.2.2.1 s.2.2.2.2.2.2.1 s.2.2.2.2.2.2.2.1 s.2.2.2.2.2.2.2.2.1 s.2.2.2.2.2.2.2.2.2.1 s.2.2.2.2.2.2.2.2.2.2.1 s.2.2.2.2.2.2.2.2.2.2.2.1 s.2.2.2.2.2.2.2.2.2.2.2.2.1 s.2.2.2.2.2.2.2.2.2.2.2.2.2)
  (λs=>some (xf s.1 (Ph s.2.2) (y.1.drop s.2.1.toNat))) (λs=>0<=s.2.1/\s.2.1<=(y.1.length:Int)/\xH (Ph s.2.2)) (λs=>((y.1.length:Int) - s.2.1).toNat) (λs hI=>by
   obtain ⟨ok,i,s⟩:=s
   obtain ⟨i0,i1,i2⟩:=hI
   simp only at i0 i1 i2 ⊢
   unfold gI
   have hr:(⟨s.1,s.2.1,s.2.2.1,s.2.2.2.1,s.2.2.2.2.1,s.2.2.2.2.2.1,s.2.2.2.2.2.2.1,s.2.2.2.2.2.2.2.1,s.2.2.2.2.2.2.2.2.1,s.2.2.2.2.2.2.2.2.2.1,s.2.2.2.2.2.2.2.2.2.2.1,s.2.2.2.2.2.2.2.2.2.2.2⟩:aa)=Ph s:=rfl
   rw[hr]
   by_cases hi:i<(y.1.length:Int)
   ·have hx:=hm (nth y.1 i.toNat) (by rw[eE (show i.toNat<y.1.length by omega)];exact List.getElem_mem _)
    obtain ⟨r',Yx,e1,e2,e3⟩:=L5 (Ph s) (nth y.1 i.toNat) (by omega) hx.1 i2
    rw[if_pos (by simpa using hi),ae (by omega),e1,Option.bind_some,ae (by omega),cR (show i.toNat<y.1.length by omega)]
    refine .inr ⟨_,rfl,⟨by simp only;omega,by simp only;omega,e2⟩,by simp only;omega,?_⟩
    simp only
    rw[show (i+1).toNat=i.toNat+1 by omega]
    have wF:Ph (r'.source,r'.aF,r'.kind,r'.a,r'.b,r'.start,r'.aJ,r'.call,r'.part,r'.last,r'.bh,r'.aP)=r':=rfl
    rw[wF]
    cases ok with
    | false=>rfl
    | true =>
     rcases e3 with ⟨o1,o2⟩|⟨o1,o2⟩
     ·rw[o1,Jj o2];rfl
     ·rw[o1,Jk o2];rfl
   ·rw[if_neg (by simpa using hi),List.drop_of_length_le (by omega)]
    unfold gH
    rw[hr]
    cases ok with
    | false=>exact .inl ⟨_,rfl,rfl⟩
    | true =>
     rw[if_neg (by simp),qt (Ph s) (by have:=i2.1;omega) (by have:=i2.2;omega),Option.bind_some,L6]
     unfold Oa
     by_cases he:cr (Ph s)≠0
     ·rw[if_pos (by simpa using he),if_pos he];exact .inl ⟨_,rfl,rfl⟩
     ·rw[if_neg (by simpa using he),if_neg he];exact .inl ⟨_,rfl,rfl⟩) (s:=(true,0,0,0,0,[],[],0,0,0,0,false,0,false)) ⟨by simp,by simp,by simp[xH,Ph]⟩ (by simp only;omega)
 exact this
theorem L8 (b:O uA):(sT 0 [] b).1.length<=b.length:=by
 have key:∀ (n:Nat) (b:O uA) (last:Int) (out:O Element),b.length<=n->(sT last out b).1.length<=out.length+b.length:=by
  intro n
  induction n with
  | zero=>intro b last out hn;rw[sT,if_pos (by omega)];simp
  | succ n ih =>
   intro b last out hn
   rw[sT]
   split
   ·simp
   ·split
    ·simp
    ·split
     ·simp
     ·split
      ·simp
      ·have:=ih (b.drop (2+(nth b 1).toNat)) (nth b 0).toNat (out++[⟨((nth b 0).toNat:Int),(b.drop 2).take (nth b 1).toNat⟩]) (by rw[List.length_drop];omega)
       simp at this ⊢
       omega
 have:=key _ b 0 [] (Nat.le_refl _)
 simpa using this
theorem Ob {b:O uA} (h:(sT 0 [] b).2=0):∀ x,x∈(sT 0 [] b).1->1<=x.tag/\x.value.length<=255:=by
 obtain ⟨l,e1,e2,_⟩:=E1 _ b 0 [] (Nat.le_refl _) (by omega) h
 rw[List.nil_append] at e1
 rw[e1]
 exact HY l 0 e2 (by omega)
theorem E7 (b:O uA) (hb:b.length<=100000):kU b=some (xg b):=by
 have hx:=(nth b 0).toNat_lt
 have hy:=(nth b 1).toNat_lt
 unfold kU xg ki
 simp only[show Int.toNat 0=0 from rfl,show Int.toNat 1=1 from rfl,show Int.toNat 2=2 from rfl]
 rw[ae (by intro _;omega),ae (by intro h;simp at h;omega),ae (by intro _;omega),ae (by intro h;simp at h;omega),ae (by intro _;omega)]
 by_cases h1:b.length<2∨b.length-2<(nth b 0).toNat*256+(nth b 1).toNat
 ·rw[if_pos (by simp;omega),if_pos h1];rfl
 ·rw[if_neg (by simp;omega),if_neg h1,ae (by omega),ae (by omega),ae (by omega),ae (by omega),ae (by omega)]
  by_cases h2:b.length-2 > (nth b 0).toNat*256+(nth b 1).toNat
  ·rw[if_pos (by simp;omega),if_pos h2];rfl
  ·rw[if_neg (by simp;omega),if_neg h2,ae (by omega),E0 _ (by simp;omega),Option.bind_some]
   by_cases h3:(sT 0 [] (b.drop 2)).2≠0
   ·rw[if_pos (by simpa using h3),if_pos h3];rfl
   ·rw[if_neg (by simpa using h3),if_neg h3]
    exact L7 _ (by have:=L8 (b.drop 2);rw[List.length_drop] at this;omega) (Ob (by simpa using h3))
def vF (i:Nat) (out:O aa) (no:O aj) (b:O uA):O aa×O aj×Int :=
 if b.length=0 then (out,no,0) else if i=4096 then ([],[],5) else if b.length<2∨b.length-2<ki b then ([],[],2)
 else if (xg (b.take (2+ki b))).2≠0 then vF (i+1) out (no++[⟨0,0,(i:Int),(xg (b.take (2+ki b))).2⟩]) (b.drop (2+ki b))
 else vF (i+1) (out++[(xg (b.take (2+ki b))).1]) no (b.drop (2+ki b))
termination_by b.length
decreasing_by all_goals (simp;omega)
theorem L9:∀ (n:Nat) (b:O uA) (i:Nat) (out:O aa) (no:O aj),b.length<=n->(vF i out no b).1.length<=out.length+n/\(vF i out no b).2.1.length<=no.length+n:=by
 intro n
 induction n with
 | zero=>intro b i out no h;rw[vF,if_pos (by omega)];simp
 | succ n ih =>
  intro b i out no h
  rw[vF]
  split
  ·simp
  ·split
   ·simp
   ·split
    ·simp
    ·rename_i h1 h2 h3
     have hd:(b.drop (2+ki b)).length<=n:=by simp;omega
     split
     ·have:=ih _ (i+1) out (no++[⟨0,0,(i:Int),(xg (b.take (2+ki b))).2⟩]) hd
      simp at this ⊢
      omega
     ·have:=ih _ (i+1) (out++[(xg (b.take (2+ki b))).1]) no hd
      simp at this ⊢
      omega
theorem Bs (b:O uA) (i j:Nat):nth (b.drop i) j=nth b (i+j):=by
 unfold nth;rw[List.getD_eq_getElem?_getD,List.getD_eq_getElem?_getD,List.getElem?_drop]
theorem Ma (b:O uA) (hb:b.length<=100000):qd b=some (vF 0 [] [] b):=by
 unfold qd
 have:=cy (step:=λs=>nF b s.1 s.2.1 s.2.2.1 s.2.2.2) (λs:O aa×O aj×Int×Int=>some (vF s.2.2.2.toNat s.1 s.2.1 (b.drop s.2.2.1.toNat)))
  (λs=>(0<=s.2.2.2/\s.2.2.2<=4096/\(s.1.length:Int)<=s.2.2.2/\(s.2.1.length:Int)<=s.2.2.2)/\0<=s.2.2.1/\s.2.2.1<=(b.length:Int)) (λs=>((b.length:Int) - s.2.2.1).toNat) (λs hI=>by
   obtain ⟨out,no,p,i⟩:=s
   obtain ⟨⟨i0,i1,i2,i3⟩,p0,p1⟩:=hI
   simp only at i0 i1 i2 i3 p0 p1 ⊢
   unfold nF
   rw[vF]
   have hlen:(b.drop p.toNat).length=b.length-p.toNat:=List.length_drop
   have hx:=(nth b p.toNat).toNat_lt
   have hy:=(nth b (p.toNat+1)).toNat_lt
   have hh:ki (b.drop p.toNat)=(nth b p.toNat).toNat*256+(nth b (p.toNat+1)).toNat:=by
    unfold ki;rw[Bs,Bs,Nat.add_zero]
   by_cases h0:(b.drop p.toNat).length=0
   ·rw[if_neg (by simp;omega),if_pos h0]
    exact .inl ⟨_,rfl,rfl⟩
   ·rw[if_pos (by simp;omega),if_neg h0]
    by_cases h1:i=4096
    ·rw[if_pos (show (i==4096)=true by simpa using h1),if_pos (show i.toNat=4096 by omega)]
     exact .inl ⟨_,rfl,rfl⟩
    ·rw[if_neg (show ¬ (i==4096)=true by simpa using h1),if_neg (show ¬ i.toNat=4096 by omega)]
     rw[show (p+1).toNat=p.toNat+1 by omega,ae (by omega),ae (by intro _;omega),ae (by intro _;omega),ae (by intro _;omega),ae (by intro _;omega),ae (by intro _;omega),ae (by intro h;simp at h;omega),ae (by intro _;omega)]
     by_cases h2:(b.drop p.toNat).length<2∨(b.drop p.toNat).length-2<ki (b.drop p.toNat)
     ·have CX:=h2
      rw[hh,hlen] at CX
      rw[if_pos (by simp only[Bool.or_eq_true,decide_eq_true_eq];omega),if_pos h2]
      exact .inl ⟨_,rfl,rfl⟩
     ·have CX:=h2
      rw[hh,hlen] at CX
      rw[if_neg (by simp only[Bool.or_eq_true,decide_eq_true_eq];omega),if_neg h2]
      have VY:(b.take (p+2+((nth b p.toNat).toNat:Int)*256+((nth b (p.toNat+1)).toNat:Int)).toNat).drop p.toNat=(b.drop p.toNat).take (2+ki (b.drop p.toNat)):=by
       rw[EZ,hh];congr 1;omega
      have HZ:b.drop (p+2+((nth b p.toNat).toNat:Int)*256+((nth b (p.toNat+1)).toNat:Int)).toNat=(b.drop p.toNat).drop (2+ki (b.drop p.toNat)):=by
       rw[List.drop_drop,hh];congr 1;omega
      rw[ae (by omega),ae (by omega),ae (by omega),ae (by omega),ae (by omega),ae (by omega),ae (by omega),ae (by omega),VY]
      rw[E7 _ (by simp;omega),Option.bind_some]
      by_cases h3:(xg ((b.drop p.toNat).take (2+ki (b.drop p.toNat)))).2≠0
      ·rw[if_neg (by simpa using h3),if_pos h3,ae (by simp;omega)]
       unfold gx
       rw[ae (by omega),show (p+1).toNat=p.toNat+1 by omega]
       refine .inr ⟨_,rfl,⟨⟨by simp only;omega,by simp only;omega,by simp only;omega,by simp;omega⟩,by simp only;omega,by simp only;omega⟩,by simp only;omega,?_⟩
       simp only
       rw[show (i+1).toNat=i.toNat+1 by omega,show ((i.toNat:Nat):Int)=i by omega,HZ]
      ·rw[if_pos (by simpa using h3),if_neg h3,ae (by simp;omega)]
       unfold gx
       rw[ae (by omega),show (p+1).toNat=p.toNat+1 by omega]
       refine .inr ⟨_,rfl,⟨⟨by simp only;omega,by simp only;omega,by simp;omega,by simp only;omega⟩,by simp only;omega,by simp only;omega⟩,by simp only;omega,?_⟩
       simp only
       rw[show (i+1).toNat=i.toNat+1 by omega,HZ]) (s:=([],[],0,0)) ⟨⟨by simp,by simp,by simp,by simp⟩,by simp,by simp⟩ (by simp only;omega)
 rw[this];simp
end Go.Proofs.Ytpdanklncjopoaa.C10
namespace Go.Proofs.Ytpdanklncjopoaa.C9
open Go.RowKit Go.Abs
def free (c:uA) (a:O uA):Prop:=∀ x,x∈a->x≠c
def gf (c:uA):List uA->List (List uA)
 | []=>[[]]
 | x::r=>if x=c then []::gf c r else (x::(gf c r).headD [])::(gf c r).tail
theorem vG (c:uA) (s:O uA):gf c s=(gf c s).headD []::(gf c s).tail:=by
 cases s with
 | nil=>rfl
 | cons x r=>unfold gf;split<;>rfl
theorem H0 (c:uA) (s:O uA):gf c s≠[]:=by rw[vG];simp
theorem zF {c:uA} {r:O uA}:gf c (c::r)=[]::gf c r:=by simp[gf]
theorem wC {c x:uA} {r:O uA} (h:x≠c):gf c (x::r)=(x::(gf c r).headD [])::(gf c r).tail:=by simp[gf,h]
theorem zG (c:uA):∀ s:O uA,(gf c s).length<=s.length+1
 | []=>by simp[gf]
 | x::r=>by
  have:=zG c r
  unfold gf
  split
  ·simp;omega
  ·rw[vG c r] at this;simp at this ⊢;omega
theorem Oc {c:uA} {r:O uA}:(gf c r).headD []∈gf c r:=by
 cases h:gf c r with
 | nil=>exact absurd h (H0 c r)
 | cons a b=>simp
theorem sU (c:uA):∀ (s w:O uA),w∈gf c s->free c w/\w.length<=s.length
 | [],w,h=>by
  simp[gf] at h
  subst h
  exact ⟨λx hx=>(by simp at hx),Nat.le_refl _⟩
 | x::r,w,h=>by
  by_cases hx:x=c
  ·subst hx
   rw[zF] at h
   rcases List.mem_cons.1 h with rfl|h
   ·exact ⟨λy hy=>(by simp at hy),by simp⟩
   ·have:=sU x r w h
    exact ⟨this.1,by simp;omega⟩
  ·rw[wC hx] at h
   rcases List.mem_cons.1 h with rfl|h
   ·have h0:=sU c r ((gf c r).headD []) Oc
    refine ⟨λy hy=>?_,by simp only[List.length_cons];omega⟩
    rcases List.mem_cons.1 hy with rfl|hy
    ·exact hx
    ·exact h0.1 y hy
   ·have h0:=sU c r w (by rw[vG c r];simp[h])
    exact ⟨h0.1,by simp;omega⟩
def E8 (c:uA):Bool:=decide (48<=c) && decide (c<=57)
def RI (c:uA):Int:=(c.toNat:Int) - 48
theorem zH {c:uA}:E8 c=true↔48<=c.toNat/\c.toNat<=57:=by
 simp only[E8,Bool.and_eq_true,decide_eq_true_eq]
 exact ⟨λh=>⟨h.1,h.2⟩,λh=>⟨h.1,h.2⟩⟩
def dL (n:Int):List uA->Int
 | []=>n
 | c::r=>dL (n*10+RI c) r
def vK (s:O uA):Bool:=s.all E8 && decide (1<=s.length) && decide (s.length<=15) && !(decide (s.headD 0=48) && decide (1<s.length))
def ff (s:O uA):Int:=if vK s=true then dL 0 s else -1
theorem H2:∀ (s:O uA) (n:Int) (k:Nat),s.all E8=true->0<=n->n<10 ^ k->0<=dL n s/\dL n s<10 ^ (k+s.length)
 | [],n,k,_,h0,h1=>⟨h0,h1⟩
 | c::r,n,k,h,h0,h1=>by
  simp only[List.all_cons,Bool.and_eq_true] at h
  have hc:=zH.1 h.1
  have:=H2 r (n*10+RI c) (k+1) h.2 (by unfold RI;omega) (by unfold RI;rw[Int.pow_succ];omega)
  rw[show k+(c::r).length=k+1+r.length from by simp;omega]
  exact this
theorem sV {s:O uA} (h:vK s=true):0<=dL 0 s/\dL 0 s<1000000000000000:=by
 simp only[vK,Bool.and_eq_true,decide_eq_true_eq] at h
 have:=H2 s 0 0 h.1.1.1 (by omega) (by decide)
 refine ⟨this.1,?_⟩
 have h2:(10:Int) ^ (0+s.length)<=10 ^ 15:=by
  rw[Nat.zero_add]
  exact_mod_cast Nat.pow_le_pow_right (by decide) h.1.2
 have h3:(10:Int) ^ 15=1000000000000000:=by decide
 omega
theorem oW {s:O uA}:ff s<0↔vK s=false:=by
 unfold ff
 cases h:vK s with
 | true=>have:=sV h;simp;omega
 | false=>simp
theorem Mb {n:Int} (h:0<=n):Go.Lib.itoa n=Go.Lib.decDigits n.toNat:=by unfold Go.Lib.itoa;rw[if_neg (by omega)]
theorem Jl {r:aa} (h:cr r=0):(r.last=true->r.part≠0)/\(r.part=0↔r.call=0)/\(r.aP=true->r.bh≠0):=by
 unfold cr at h
 split at h;· cases h
 split at h;· cases h
 split at h;· cases h
 split at h;· cases h
 split at h;· cases h
 split at h;· cases h
 split at h;· cases h
 split at h;· cases h
 split at h;· cases h
 split at h;· cases h
 rename_i h8 h9 wR
 refine ⟨λa b=>h8 (.inr ⟨a,b⟩),?_,λa b=>wR ⟨a,b⟩⟩
 by_cases hp:r.part=0↔r.call=0
 ·exact hp
 ·exact absurd (.inl hp) h8
theorem zI {n:Int} (h:0<=n):UInt8.ofInt (48+Int.tmod n 10)=UInt8.ofNat (48+n.toNat % 10):=by
 have e:48+Int.tmod n 10=((48+n.toNat % 10:Nat):Int):=by
  rw[Int.tmod_eq_emod_of_nonneg h];omega
 rw[e]
 generalize hk:48+n.toNat % 10=k
 have cP:((k:Int) % 2 ^ 8).toNat=k:=by omega
 unfold UInt8.ofInt
 rw[cP]
theorem oX {n:Int} (h:0<=n) (h1:n<=9223372036854775807):dd n=some (Go.Lib.itoa n):=by
 unfold dd
 have e0:Int.tdiv n 10=n / 10:=Int.tdiv_eq_ediv_of_nonneg h
 have em:Int.tmod n 10=n % 10:=Int.tmod_eq_emod_of_nonneg h
 rw[ae (by omega),ae (by omega),ae (by omega)]
 have:=cy (step:=λs=>jR s.1 s.2) (λs:Int×O uA=>some (if s.1 > 0 then Go.Lib.decDigits s.1.toNat++s.2 else s.2)) (λs=>0<=s.1/\s.1<=9223372036854775807/\s.2.length+s.1.toNat<=922337203685477581) (λs=>s.1.toNat) (λs hI=>by
  obtain ⟨m,t⟩:=s
  obtain ⟨i0,i1,i2⟩:=hI
  simp only at i0 i1 i2 ⊢
  unfold jR
  by_cases hm:m > 0
  ·rw[if_pos (by simpa using hm)]
   have d0:Int.tdiv m 10=m / 10:=Int.tdiv_eq_ediv_of_nonneg i0
   have dm:Int.tmod m 10=m % 10:=Int.tmod_eq_emod_of_nonneg i0
   rw[ae (by omega),ae (by omega),ae (by simp;omega),ae (by omega)]
   refine .inr ⟨_,rfl,⟨by simp only;omega,by simp only;omega,by simp;omega⟩,by simp only;omega,?_⟩
   simp only
   rw[zI i0,d0,if_pos hm]
   congr 1
   by_cases wR:m.toNat<10
   ·rw[if_neg (by omega)]
    conv=>rhs;rw[Go.Lib.decDigits,dif_pos wR]
    have:m.toNat % 10=m.toNat:=Nat.mod_eq_of_lt wR
    rw[this]
   ·rw[if_pos (by omega)]
    conv=>rhs;rw[Go.Lib.decDigits,dif_neg wR]
    have:(m / 10).toNat=m.toNat / 10:=by omega
    rw[this]
    simp
  ·rw[if_neg (by simpa using hm)]
   exact .inl ⟨_,rfl,by rw[if_neg hm]⟩) (s:=(Int.tdiv n 10,[UInt8.ofInt (48+Int.tmod n 10)])) ⟨by simp only;omega,by simp only;omega,by simp;omega⟩ (by simp only;omega)
 rw[this,Mb h]
 simp only
 rw[zI h,e0]
 congr 1
 by_cases wR:n.toNat<10
 ·rw[if_neg (by omega)]
  conv=>rhs;rw[Go.Lib.decDigits,dif_pos wR]
  have:n.toNat % 10=n.toNat:=Nat.mod_eq_of_lt wR
  rw[this]
 ·rw[if_pos (by omega)]
  conv=>rhs;rw[Go.Lib.decDigits,dif_neg wR]
  have:(n / 10).toNat=n.toNat / 10:=by omega
  rw[this]
theorem Mc (sep:O uA):∀ (x:O uA) (r ys:O (O uA)),Go.Lib.join (x::r++ys) sep=Go.Lib.join (x::r) sep++Go.Lib.joinTail sep ys:=by
 intro x r ys
 rw[List.cons_append,Go.Lib.join_cons,Go.Lib.join_cons,Go.Lib.joinTail,Go.Lib.joinTail,Go.Lib.joinTail]
 simp
theorem uJ {n:Int} (h:0<=n) (h1:n<=9223372036854775807):(Go.Lib.itoa n).length<=21:=Nk h h1
theorem CL (r:aa) (h:cr r=0):gw r=some (oS r,0):=by
 have g:=mf h
 obtain ⟨TO,Yy,Fm⟩:=Jl h
 have ha:=mg g.a
 have hb:r.b.length<=15:=by
  rcases g.b with h|h
  ·exact mg h
  ·rw[h.2];simp
 obtain ⟨gs,ge,gk,_,_,Yz,gu,gc,gp,gt⟩:=g
 have l1:=uJ (n:=r.source) (by omega) (by omega)
 have l2:=uJ (n:=r.aF) (by omega) (by omega)
 have l3:=uJ (n:=r.start) (by omega) (by omega)
 have l4:=uJ (n:=r.aJ) (by omega) (by omega)
 have l5:=uJ (n:=r.call) (by omega) (by omega)
 have l6:=uJ (n:=r.part) (by omega) (by omega)
 have l7:=uJ (n:=r.bh) (by omega) (by omega)
 have n1:=oX (n:=r.source) (by omega) (by omega)
 have n2:=oX (n:=r.aF) (by omega) (by omega)
 have n3:=oX (n:=r.start) (by omega) (by omega)
 have n4:=oX (n:=r.aJ) (by omega) (by omega)
 have n5:=oX (n:=r.call) (by omega) (by omega)
 have n6:=oX (n:=r.part) (by omega) (by omega)
 have n7:=oX (n:=r.bh) (by omega) (by omega)
 have Md:oS r=Go.Lib.join (wS r) [32]++Go.Lib.joinTail [32] (Bb r)++Go.Lib.joinTail [32] (zd r):=by
  unfold oS K5
  obtain ⟨x,t,hx⟩:∃ x t,wS r=x::t:=⟨_,_,rfl⟩
  rw[hx,List.append_assoc,Mc]
  simp[Go.Lib.joinTail]
 have O4:∀ s:O uA,s.length<=1000->(r.bh > 0/\r.aP=true->s=oS r)->(¬(r.bh > 0/\r.aP=true)->s=Go.Lib.join (wS r) [32]++Go.Lib.joinTail [32] (Bb r))->ei r s=some (oS r,0):=by
  intro s hs h1 h2
  unfold ei
  by_cases ht:r.bh > 0/\r.aP=false
  ·rw[if_pos (by simp[ht]),ae (by simp;omega),n7,Option.bind_some,ae (by simp;omega)]
   rw[h2 (by simp[ht]),Md,zd,if_neg (by omega),if_neg (by simp[ht])]
   simp[Go.Lib.joinTail]
  ·rw[if_neg (by simpa using ht)]
   by_cases hi:r.bh > 0/\r.aP=true
   ·rw[h1 hi]
   ·have h0:r.bh=0:=by
     by_cases h0:r.bh > 0
     ·cases hh:r.aP with
      | true=>exact absurd ⟨h0,hh⟩ hi
      | false=>exact absurd ⟨h0,hh⟩ ht
     ·omega
    rw[h2 hi,Md,zd,if_pos h0]
    simp[Go.Lib.joinTail]
 have Hq:∀ s:O uA,s.length<=900->s=Go.Lib.join (wS r) [32]++Go.Lib.joinTail [32] (Bb r)->ej r s=some (oS r,0):=by
  intro s hs h1
  unfold ej
  by_cases hi:r.bh > 0/\r.aP=true
  ·rw[if_pos (by simp[hi]),ae (by simp;omega),n7,Option.bind_some,ae (by simp;omega)]
   refine O4 _ (by simp;omega) (λ_=>?_) (λhh=>absurd hi hh)
   rw[h1,Md,zd,if_neg (by omega),if_pos hi.2]
   simp[Go.Lib.joinTail]
  ·rw[if_neg (by simpa using hi)]
   exact O4 _ (by omega) (λhh=>absurd hh hi) (λ_=>h1)
 have ru:∀ s:O uA,s.length<=800->s=Go.Lib.join (wS r) [32]++Go.Lib.joinTail [32] (if r.part=0 then [] else [[112,97,114,116],Go.Lib.itoa r.call,Go.Lib.itoa r.part])->ek r s=some (oS r,0):=by
  intro s hs h1
  unfold ek
  by_cases hl:r.last=true
  ·have hp:=TO hl
   rw[if_pos hl,ae (by simp;omega)]
   refine Hq _ (by simp;omega) ?_
   rw[h1,Bb,if_neg hp,if_neg hp,if_pos hl]
   simp[Go.Lib.joinTail]
  ·rw[if_neg hl]
   refine Hq _ (by omega) ?_
   rw[h1,Bb]
   by_cases hp:r.part=0
   ·rw[if_pos hp,if_pos hp]
   ·rw[if_neg hp,if_neg hp,if_neg hl];simp
 have ly:∀ b,b=(if r.b=[] then [45] else r.b)->eo r b=some (oS r,0):=by
  intro b OQ
  have lb:b.length<=15:=by rw[OQ];split;simp;exact hb
  unfold eo
  have lk:((([118,116,100,99]:O uA).take r.kind.toNat).drop (r.kind-1).toNat).length<=4:=by simp;omega
  have Me:Go.Lib.join (wS r) [32]=(([118,116,100,99]:O uA).take r.kind.toNat).drop (r.kind-1).toNat++[32]++Go.Lib.itoa r.source++[32]++Go.Lib.itoa r.aF++[32]++r.a++[32]++b++[32]++Go.Lib.itoa r.start++[32]++Go.Lib.itoa r.aJ:=by
   rw[OQ,wS,Go.Lib.join_cons]
   simp[Go.Lib.joinTail]
  generalize hK:(([118,116,100,99]:O uA).take r.kind.toNat).drop (r.kind-1).toNat=K at lk Me ⊢
  rw[ae (by omega),ae (by simp;omega)]
  simp only[n1,n2,n3,n4,n5,n6,Option.bind_some]
  rw[ae (by simp only[List.length_append,List.length_cons,List.length_nil];omega)]
  rw[ae (by simp only[List.length_append,List.length_cons,List.length_nil];omega)]
  rw[ae (by simp only[List.length_append,List.length_cons,List.length_nil];omega)]
  rw[ae (by simp only[List.length_append,List.length_cons,List.length_nil];omega)]
  rw[ae (by simp only[List.length_append,List.length_cons,List.length_nil];omega)]
  rw[ae (by simp only[List.length_append,List.length_cons,List.length_nil];omega)]
  rw[ae (by simp only[List.length_append,List.length_cons,List.length_nil];omega)]
  rw[ae (by simp only[List.length_append,List.length_cons,List.length_nil];omega)]
  rw[ae (by simp only[List.length_append,List.length_cons,List.length_nil];omega)]
  rw[ae (by simp only[List.length_append,List.length_cons,List.length_nil];omega)]
  rw[ae (by simp only[List.length_append,List.length_cons,List.length_nil];omega)]
  rw[ae (by simp only[List.length_append,List.length_cons,List.length_nil];omega)]
  by_cases hp:r.part > 0
  ·rw[if_pos (by simpa using hp)]
   rw[ae (by simp only[List.length_append,List.length_cons,List.length_nil];omega)]
   rw[ae (by simp only[List.length_append,List.length_cons,List.length_nil];omega)]
   rw[ae (by simp only[List.length_append,List.length_cons,List.length_nil];omega)]
   rw[ae (by simp only[List.length_append,List.length_cons,List.length_nil];omega)]
   refine ru _ (by simp only[List.length_append,List.length_cons,List.length_nil];omega) ?_
   rw[if_neg (by omega),Me]
   simp[Go.Lib.joinTail]
  ·rw[if_neg (by simpa using hp)]
   refine ru _ (by simp only[List.length_append,List.length_cons,List.length_nil];omega) ?_
   rw[if_pos (by omega),Me]
   simp[Go.Lib.joinTail]
 unfold gw
 rw[qt r (by omega) (by omega),h]
 simp only[Option.bind_some]
 rw[if_neg (by simp)]
 split
 ·rename_i Uq
  exact ly _ (by rw[if_pos (by simpa using Uq)])
 ·rename_i Uq
  exact ly _ (by rw[if_neg (by simpa using Uq)])
theorem Jm (r:aa) (ha:r.a.length<1000000000) (hb:r.b.length<1000000000):gw r=some (if cr r=0 then oS r else [],cr r):=by
 by_cases h:cr r=0
 ·rw[CL r h,if_pos h,h]
 ·unfold gw
  rw[qt r ha hb,if_neg h]
  simp only[Option.bind_some]
  rw[if_pos (by simpa using h)]
theorem Od {c:uA} (h:E8 c=false):c.toNat<48∨57<c.toNat:=by
 have:¬ (48<=c.toNat/\c.toNat<=57):=λhh=>by rw[zH.2 hh] at h;cases h
 omega
theorem TP {k:Nat} (h:k<=15):(10:Int) ^ k<=1000000000000000:=by
 have h2:(10:Int) ^ k<=10 ^ 15:=by exact_mod_cast Nat.pow_le_pow_right (by decide) h
 have h3:(10:Int) ^ 15=1000000000000000:=by decide
 omega
theorem Re {s:O uA}:vK s=(s.all E8 && !((decide ((s.length:Int)<1) || decide ((s.length:Int) > 15)) || (decide (s.headD 0=48) && decide ((s.length:Int) > 1)))):=by
 unfold vK
 rw[Bool.eq_iff_iff]
 simp only[Bool.and_eq_true,decide_eq_true_eq,Bool.not_eq_true',Bool.or_eq_false_iff,Bool.and_eq_false_iff,decide_eq_false_iff_not]
 constructor
 ·rintro ⟨⟨⟨h1,h2⟩,h3⟩,h4⟩
  exact ⟨h1,⟨by omega,by omega⟩,by rcases h4 with h4|h4;exact .inl h4;exact .inr (by omega)⟩
 ·rintro ⟨h1,⟨h2,h3⟩,h4⟩
  exact ⟨⟨⟨h1,by omega⟩,by omega⟩,by rcases h4 with h4|h4;exact .inl h4;exact .inr (by omega)⟩
theorem zJ {s:O uA}:nth s 0=s.headD 0:=by
 cases s with
 | nil=>rfl
 | cons a t=>rfl
theorem rB (s:O uA):dU s=some (ff s):=by
 unfold dU
 simp only[show Int.toNat 0=0 from rfl]
 rw[ae (λh=>by simp at h;omega)]
 rw[zJ]
 unfold ff
 rw[Re]
 by_cases hc:(decide ((s.length:Int)<1) || decide ((s.length:Int) > 15) || (decide (s.headD 0=48) && decide ((s.length:Int) > 1)))=true
 ·rw[if_pos (by simpa using hc),if_neg (by rw[hc];simp)]
 ·rw[if_neg (by simpa using hc)]
  have kn:(decide ((s.length:Int)<1) || decide ((s.length:Int) > 15) || (decide (s.headD 0=48) && decide ((s.length:Int) > 1)))=false:=by simpa using hc
  rw[kn]
  simp only[Bool.or_eq_false_iff,decide_eq_false_iff_not] at kn
  have:=cy (step:=λst=>kD s st.1 st.2) (λst:Int×Int=>some (if (s.drop st.2.toNat).all E8=true then dL st.1 (s.drop st.2.toNat) else -1))
   (λst=>0<=st.2/\st.2<=(s.length:Int)/\0<=st.1/\st.1<10 ^ st.2.toNat) (λst=>((s.length:Int) - st.2).toNat) (λst hI=>by
    obtain ⟨n,i⟩:=st
    obtain ⟨i0,i1,i2,i3⟩:=hI
    simp only at i0 i1 i2 i3 ⊢
    have hp:=TP (k:=i.toNat) (by omega)
    unfold kD
    by_cases hi:i<(s.length:Int)
    ·rw[if_pos (by simpa using hi),ae (by omega),ae (by omega)]
     rw[cR (show i.toNat<s.length by omega)]
     cases hd:E8 (nth s i.toNat) with
     | false =>
      have hh:=Od hd
      rw[if_pos (by
       simp only[Bool.or_eq_true,decide_eq_true_eq]
       rcases hh with h|h
       ·exact .inl h
       ·exact .inr h)]
      exact .inl ⟨_,rfl,by simp[hd]⟩
     | true =>
      have hh:=zH.1 hd
      have hs:(nth s i.toNat-48).toNat=(nth s i.toNat).toNat-48:=by
       rw[UInt8.toNat_sub_of_le _ _ (by exact hh.1)];rfl
      rw[if_neg (by
       simp only[Bool.or_eq_true,decide_eq_true_eq,not_or]
       exact ⟨λh=>by have:(nth s i.toNat).toNat<48:=h;omega,λh=>by have:57<(nth s i.toNat).toNat:=h;omega⟩)]
      rw[hs,ae (by omega),ae (by omega),ae (by omega),ae (by omega)]
      refine .inr ⟨_,rfl,⟨by simp only;omega,by simp only;omega,by simp only;omega,?_⟩,by simp only;omega,?_⟩
      ·simp only
       rw[show (i+1).toNat=i.toNat+1 from by omega,Int.pow_succ];omega
      ·simp only
       rw[show (i+1).toNat=i.toNat+1 from by omega]
       have e:n*10+(((nth s i.toNat).toNat-48:Nat):Int)=n*10+RI (nth s i.toNat):=by unfold RI;omega
       rw[e]
       simp[hd,dL]
    ·rw[if_neg (by simpa using hi)]
     refine .inl ⟨_,rfl,?_⟩
     rw[List.drop_of_length_le (by omega)]
     simp[dL]) (s:=(0,0)) ⟨by simp,by simp,by simp,by simp⟩ (by simp only;omega)
  rw[this]
  simp
def pre (a:O uA) (l:O (O uA)):O (O uA):=(a++l.headD [])::l.tail
theorem xI {c:uA} {s:O uA}:pre [] (gf c s)=gf c s:=by unfold pre;rw[List.nil_append,←vG]
theorem Oe (s:O uA) (hl:s.length<=100000):mS s=some (gf 32 s):=by
 unfold mS
 have:=cy (step:=λst=>kC s st.1 st.2.1 st.2.2) (λst:O (O uA)×Int×Int=>some (if st.2.2<=(s.length:Int) then st.1++pre ((s.take st.2.2.toNat).drop st.2.1.toNat) (gf 32 (s.drop st.2.2.toNat)) else st.1))
  (λst=>0<=st.2.1/\st.2.1<=st.2.2/\st.2.2<=(s.length:Int)+1/\(st.1.length:Int)<=st.2.2) (λst=>((s.length:Int)+1-st.2.2).toNat) (λst hI=>by
   obtain ⟨out,fr,i⟩:=st
   obtain ⟨i0,i1,i2,i3⟩:=hI
   simp only at i0 i1 i2 i3 ⊢
   unfold kC
   by_cases hi:i<=(s.length:Int)
   ·rw[if_pos (by simpa using hi),ae (λh=>by simp at h;omega)]
    by_cases hc:i=(s.length:Int)∨nth s i.toNat=32
    ·rw[if_pos (by simpa using hc),ae (by omega),ae (by simp;omega),ae (by omega),ae (by omega)]
     refine .inr ⟨_,rfl,⟨by simp only;omega,by simp only;omega,by simp only;omega,by simp;omega⟩,by simp only;omega,?_⟩
     simp only
     rw[if_pos hi]
     by_cases lA:i=(s.length:Int)
     ·rw[if_neg (by omega),List.drop_of_length_le (show s.length<=i.toNat by omega)]
      simp[gf,pre]
     ·have hn:nth s i.toNat=32:=hc.resolve_left lA
      rw[if_pos (by omega),cR (show i.toNat<s.length by omega),hn,zF,show (i+1).toNat=i.toNat+1 from by omega]
      have:((s.take (i.toNat+1)).drop (i.toNat+1))=[]:=by rw[List.drop_of_length_le];simp;omega
      rw[this,xI]
      simp[pre]
    ·rw[if_neg (by simpa using hc),ae (by omega)]
     have h1:¬ i=(s.length:Int):=λh=>hc (.inl h)
     have h2:nth s i.toNat≠32:=λh=>hc (.inr h)
     refine .inr ⟨_,rfl,⟨by simp only;omega,by simp only;omega,by simp only;omega,by simp only;omega⟩,by simp only;omega,?_⟩
     simp only
     rw[if_pos hi,if_pos (by omega),cR (show i.toNat<s.length by omega),wC h2,show (i+1).toNat=i.toNat+1 from by omega]
     rw[ya (show i.toNat<s.length by omega)]
     rw[List.drop_append_of_le_length (by simp;omega)]
     simp[pre]
   ·rw[if_neg (by simpa using hi)]
    exact .inl ⟨_,rfl,by rw[if_neg hi]⟩) (s:=([],0,0)) ⟨by simp,by simp,by simp only;omega,by simp⟩ (by simp only;omega)
 rw[this]
 simp only
 rw[if_pos (by omega)]
 simp only[show Int.toNat 0=0 from rfl,List.take_zero,List.drop_nil,List.nil_append,List.drop_zero,xI]
abbrev TQ:O uA:=[112,97,114,116]
abbrev Rf:O uA:=[108,97,115,116]
abbrev RJ:O uA:=[105,110]
abbrev Rg:O uA:=[111,117,116]
def pt (s:O uA):Int:=if s=[118] then 1 else if s=[116] then 2 else if s=[100] then 3 else if s=[99] then 4 else 0
def jt:List (List uA)->Option (Int×Bool)
 | []=>some (0,false)
 | [d,t]=>if (d=RJ∨d=Rg)/\vK t=true then some (dL 0 t,decide (d=RJ)) else none
 | _=>none
def E9:List (List uA)->Option (Bool×Int×Bool)
 | []=>(jt []).map λt=>(false,t.1,t.2)
 | l::r=>if l=Rf then (jt r).map λt=>(true,t.1,t.2) else (jt (l::r)).map λt=>(false,t.1,t.2)
def zK:List (List uA)->Option (Int×Int×Bool×Int×Bool)
 | p::c::q::r=>if p=TQ then (if vK c=true/\vK q=true then (E9 r).map λt=>(dL 0 c,dL 0 q,t.1,t.2.1,t.2.2) else none) else (jt (p::c::q::r)).map λt=>(0,0,false,t.1,t.2)
 | w=>(jt w).map λt=>(0,0,false,t.1,t.2)
def bF (b:O uA):O uA:=if b=[45] then [] else b
def pJ:List (List uA)->Option aa
 | k::s1::s2::a::b::t::u::rest =>
  if 0<pt k/\vK s1=true/\vK s2=true/\a≠[]/\b≠[]/\vK t=true/\vK u=true then
   (zK rest).map λx=>⟨dL 0 s1,dL 0 s2,pt k,a,bF b,dL 0 t,dL 0 u,x.1,x.2.1,x.2.2.1,x.2.2.2.1,x.2.2.2.2⟩
  else none
 | _=>none
def Z:aa:=⟨0,0,0,[],[],0,0,0,0,false,0,false⟩
def fin (line:O uA) (x:aa):aa×Int:=if cr x≠0 then (Z,cr x) else if oS x≠line then (Z,1) else (x,0)
def xh (line:List uA):aa×Int:=match pJ (gf 32 line) with
 | none=>(Z,1)
 | some x=>fin line x
theorem CM {x:O uA} (h:vK x=true):x≠[]:=by rintro rfl;cases h
theorem Fa {d:O uA} {t:O (O uA)} (h1:d≠RJ) (h2:d≠Rg):jt (d::t)=none:=by
 cases t with
 | nil=>rfl
 | cons a r =>
  cases r with
  | nil=>simp[jt,h1,h2]
  | cons b s=>rfl
theorem Jn {w:List (List uA)} {i:Nat} (hi:i<7) (h:w[i]?=none∨w[i]?=some []):pJ w=none:=by
 unfold pJ
 split
 ·rename_i k s1 s2 a b t u rest
  rw[if_neg]
  rintro ⟨c0,c1,c2,c3,c4,c5,c6⟩
  match i,hi with
  | 0,_=>simp at h;subst h;exact absurd c0 (by simp[pt])
  | 1,_=>simp at h;exact CM c1 h
  | 2,_=>simp at h;exact CM c2 h
  | 3,_=>simp at h;exact c3 h
  | 4,_=>simp at h;exact c4 h
  | 5,_=>simp at h;exact CM c5 h
  | 6,_=>simp at h;exact CM c6 h
 ·rfl
theorem Rh (s:O uA):oE s=some (pt s):=by
 unfold oE pt
 by_cases h1:s=[118]
 ·rw[if_pos (by simp[h1]),if_pos h1]
 ·rw[if_neg (by simpa using h1),if_neg h1]
  by_cases h2:s=[116]
  ·rw[if_pos (by simp[h2]),if_pos h2]
  ·rw[if_neg (by simpa using h2),if_neg h2]
   by_cases h3:s=[100]
   ·rw[if_pos (by simp[h3]),if_pos h3]
   ·rw[if_neg (by simpa using h3),if_neg h3]
    by_cases h4:s=[99]
    ·rw[if_pos (by simp[h4]),if_pos h4]
    ·rw[if_neg (by simpa using h4),if_neg h4]
def okB (y1 y2 y3 y4 y5 c p:Int):Bool:=decide (y1 > 0) && !((((((decide (y2<0)) || (decide (y3<0))) || (decide (y4<0))) || (decide (y5<0))) || (decide (c<0))) || (decide (p<0)))
def RK (o:Option (aa×Bool)) (g:Bool) (e:Option aa):Prop:=∃ x b,o=some (x,b)/\(match e with
 | some r=>b=g/\x=r
 | none=>b=false)
theorem Mf {w:O (O uA)} {y1 y2 y3 y4 y5 c p i tr:Int} {b:O uA} {l WN:Bool} :
  eV w y1 y2 y3 y4 y5 b c p l i tr WN=some ((⟨y2,y3,y1,nth w 3,b,y4,y5,c,p,l,tr,WN⟩:aa),((i==(w.length:Int)) && okB y1 y2 y3 y4 y5 c p && !(decide (tr<0)))):=by
 unfold eV okB
 congr 2
 rw[Bool.eq_iff_iff]
 simp only[Bool.and_eq_true,Bool.not_eq_true',Bool.or_eq_false_iff,beq_iff_eq,decide_eq_true_eq,decide_eq_false_iff_not]
 constructor
 ·rintro ⟨⟨a1,a2⟩,a3⟩;exact ⟨⟨a1,a2,a3.1⟩,a3.2⟩
 ·rintro ⟨⟨a1,a2,a3⟩,a4⟩;exact ⟨⟨a1,a2⟩,a3,a4⟩
theorem Fb {w:O (O uA)} {y1 y2 y3 y4 y5 c p:Int} {b:O uA} {l:Bool} (i:Nat) (hi:i<=w.length) (hl:w.length<=1000000) :
  RK (db w y1 y2 y3 y4 y5 b i c p l) (okB y1 y2 y3 y4 y5 c p) ((jt (w.drop i)).map λt=>⟨y2,y3,y1,nth w 3,b,y4,y5,c,p,l,t.1,t.2⟩):=by
 unfold db
 rw[ae (by omega),ae (λh=>by first|omega|(simp at h;done)|(simp at h;omega)),ae (λh=>by first|omega|(simp at h;done)|(simp at h;omega))]
 simp only[Int.toNat_natCast]
 by_cases h1:i+1<w.length
 ·-- two words at least
  have hd:=cR (l:=w) (k:=i) (by omega)
  have X0:=cR (l:=w) (k:=i+1) h1
  by_cases h2:nth w i=RJ∨nth w i=Rg
  ·rw[if_pos (by simp only[Bool.and_eq_true,decide_eq_true_eq,Bool.or_eq_true,beq_iff_eq];exact ⟨by omega,h2⟩),ae (by omega),ae (by omega),ae (by omega)]
   rw[show ((i:Int)+1).toNat=i+1 from by omega,rB,Option.bind_some,ae (by omega),Mf]
   refine ⟨_,_,rfl,?_⟩
   rw[hd,X0]
   by_cases h3:i+2=w.length
   ·rw[List.drop_of_length_le (by omega:w.length<=i+1+1)]
    have hb:(((i:Int)+2)==(w.length:Int))=true:=by rw[beq_iff_eq];omega
    rw[hb]
    cases hv:vK (nth w (i+1)) with
    | true =>
     have vN:ff (nth w (i+1))=dL 0 (nth w (i+1)):=by unfold ff;rw[if_pos hv]
     have Tw:=sV hv
     rw[show jt [nth w i,nth w (i+1)]=some (dL 0 (nth w (i+1)),decide (nth w i=RJ)) from by simp only[jt,hv,h2,and_self,if_true]]
     simp only[Option.map_some]
     refine ⟨?_,?_⟩
     ·rw[vN];simp;omega
     ·rw[vN]
      congr 1
      by_cases hh:nth w i=RJ<;>simp[hh]
    | false =>
     rw[show jt [nth w i,nth w (i+1)]=none from by simp[jt,hv]]
     simp only[Option.map_none]
     have:=oW.2 hv
     simp[this]
   ·rw[cR (l:=w) (k:=i+1+1) (by omega)]
    rw[show jt (nth w i::nth w (i+1)::nth w (i+1+1)::w.drop (i+1+1+1))=none from rfl]
    simp only[Option.map_none]
    have hb:(((i:Int)+2)==(w.length:Int))=false:=by rw[beq_eq_false_iff_ne];omega
    rw[hb]
    rfl
  ·rw[if_neg (by simp only[Bool.and_eq_true,decide_eq_true_eq,Bool.or_eq_true,beq_iff_eq];exact λhh=>h2 hh.2),Mf]
   refine ⟨_,_,rfl,?_⟩
   rw[hd,Fa (λh=>h2 (.inl h)) (λh=>h2 (.inr h))]
   have hb:((i:Int)==(w.length:Int))=false:=by rw[beq_eq_false_iff_ne];omega
   simp[hb]
 ·rw[if_neg (by simp;omega),Mf]
  refine ⟨_,_,rfl,?_⟩
  by_cases h3:i=w.length
  ·rw[List.drop_of_length_le (by omega)]
   have hb:((i:Int)==(w.length:Int))=true:=by rw[beq_iff_eq];omega
   simp[jt,hb]
  ·have hd:=cR (l:=w) (k:=i) (by omega)
   rw[hd,List.drop_of_length_le (by omega:w.length<=i+1)]
   have hb:((i:Int)==(w.length:Int))=false:=by rw[beq_eq_false_iff_ne];omega
   simp[jt,hb]
theorem Of {y1 y2 y3 y4 y5 c p:Int} (h:c<0∨p<0):okB y1 y2 y3 y4 y5 c p=false:=by
 unfold okB
 rcases h with h|h<;>simp[h]
theorem Jo {o:J (aa×Bool)} {e:J aa} {g':Bool} (h:RK o false e):RK o g' none:=by
 obtain ⟨x,b,h1,h2⟩:=h
 refine ⟨x,b,h1,?_⟩
 cases e with
 | none=>exact h2
 | some r=>exact h2.1
theorem Ri {y1 y2 y3 y4 y5 c p:Int} (h:0<=c/\0<=p):okB y1 y2 y3 y4 y5 c p=okB y1 y2 y3 y4 y5 0 0:=by
 unfold okB
 rw[decide_eq_false (show ¬ c<0 by omega),decide_eq_false (show ¬ p<0 by omega)]
 simp
theorem TS {w:List (List uA)} {y1 y2 y3 y4 y5:Int} {b:List uA} (hi:7<=w.length) (hl:w.length<=1000000) :
  RK (dz w y1 y2 y3 y4 y5 b) (okB y1 y2 y3 y4 y5 0 0) ((zK (w.drop 7)).map λt=>⟨y2,y3,y1,nth w 3,b,y4,y5,t.1,t.2.1,t.2.2.1,t.2.2.2.1,t.2.2.2.2⟩):=by
 unfold dz
 rw[ae (by omega),ae (λh=>by first|omega|(simp at h;done)|(simp at h;omega))]
 simp only[show Int.toNat 7=7 from rfl,show Int.toNat (7+1)=8 from rfl,show Int.toNat (7+2)=9 from rfl,show Int.toNat (7+3)=10 from rfl]
 by_cases h9:9<w.length
 ·have X1:=cR (l:=w) (k:=7) (by omega)
  have X2:=cR (l:=w) (k:=8) (by omega)
  have X3:=cR (l:=w) (k:=9) (by omega)
  have hd:w.drop 7=nth w 7::nth w 8::nth w 9::w.drop 10:=by rw[X1,X2,X3]
  rw[hd]
  by_cases hp:nth w 7=TQ
  ·rw[if_pos (by simp only[Bool.and_eq_true,decide_eq_true_eq,beq_iff_eq];exact ⟨by omega,hp⟩),ae (by omega),ae (by omega),rB,Option.bind_some,ae (by omega),ae (by omega),rB,Option.bind_some,ae (by omega),ae (λh=>by first|omega|(simp at h;done)|(simp at h;omega))]
   rw[zK,if_pos hp]
   have main:∀ (c p:Int),RK (if (decide ((7:Int)+3<(w.length:Int)) && (nth w 10==Rf))=true then ck ((-9223372036854775808:Int)<=7+3+1/\7+3+1<=(9223372036854775807:Int)) (db w y1 y2 y3 y4 y5 b (7+3+1) c p true) else db w y1 y2 y3 y4 y5 b (7+3) c p false)
     (okB y1 y2 y3 y4 y5 c p) ((E9 (w.drop 10)).map λt=>⟨y2,y3,y1,nth w 3,b,y4,y5,c,p,t.1,t.2.1,t.2.2⟩):=by
    intro c p
    by_cases wR:10<w.length
    ·have TT:=cR (l:=w) (k:=10) wR
     rw[TT]
     by_cases Mg:nth w 10=Rf
     ·rw[if_pos (by simp only[Bool.and_eq_true,decide_eq_true_eq,beq_iff_eq];exact ⟨by omega,Mg⟩),ae (by omega)]
      have:=Fb (w:=w) (y1:=y1) (y2:=y2) (y3:=y3) (y4:=y4) (y5:=y5) (b:=b) (c:=c) (p:=p) (l:=true) 11 (by omega) hl
      rw[E9,if_pos Mg,Option.map_map]
      exact this
     ·rw[if_neg (by simp only[Bool.and_eq_true,decide_eq_true_eq,beq_iff_eq];exact λhh=>Mg hh.2)]
      have:=Fb (w:=w) (y1:=y1) (y2:=y2) (y3:=y3) (y4:=y4) (y5:=y5) (b:=b) (c:=c) (p:=p) (l:=false) 10 (by omega) hl
      rw[E9,if_neg Mg,Option.map_map,←TT]
      exact this
    ·rw[if_neg (by simp only[Bool.and_eq_true,decide_eq_true_eq];omega)]
     have:=Fb (w:=w) (y1:=y1) (y2:=y2) (y3:=y3) (y4:=y4) (y5:=y5) (b:=b) (c:=c) (p:=p) (l:=false) 10 (by omega) hl
     rw[List.drop_of_length_le (by omega:w.length<=10)] at this ⊢
     rw[E9,Option.map_map]
     exact this
   have m:=main (ff (nth w 8)) (ff (nth w 9))
   by_cases hv:vK (nth w 8)=true/\vK (nth w 9)=true
   ·rw[if_pos hv]
    have e8:ff (nth w 8)=dL 0 (nth w 8):=by unfold ff;rw[if_pos hv.1]
    have e9:ff (nth w 9)=dL 0 (nth w 9):=by unfold ff;rw[if_pos hv.2]
    have n8:=sV hv.1
    have n9:=sV hv.2
    rw[e8,e9] at m ⊢
    rw[Ri ⟨n8.1,n9.1⟩] at m
    rw[Option.map_map]
    exact m
   ·rw[if_neg hv]
    have:okB y1 y2 y3 y4 y5 (ff (nth w 8)) (ff (nth w 9))=false:=Of (by
     cases h8:vK (nth w 8) with
     | false=>exact .inl (oW.2 h8)
     | true =>
      cases h9:vK (nth w 9) with
      | false=>exact .inr (oW.2 h9)
      | true=>exact absurd ⟨h8,h9⟩ hv)
    rw[this] at m
    exact Jo m
  ·rw[if_neg (by simp only[Bool.and_eq_true,decide_eq_true_eq,beq_iff_eq];exact λhh=>hp hh.2)]
   have:=Fb (w:=w) (y1:=y1) (y2:=y2) (y3:=y3) (y4:=y4) (y5:=y5) (b:=b) (c:=0) (p:=0) (l:=false) 7 (by omega) hl
   rw[zK,if_neg hp,Option.map_map,←hd]
   exact this
 ·rw[if_neg (by simp only[Bool.and_eq_true,decide_eq_true_eq];omega)]
  have:=Fb (w:=w) (y1:=y1) (y2:=y2) (y3:=y3) (y4:=y4) (y5:=y5) (b:=b) (c:=0) (p:=0) (l:=false) 7 (by omega) hl
  have ht:zK (w.drop 7)=(jt (w.drop 7)).map λt=>(0,0,false,t.1,t.2):=by
   have hlen:(w.drop 7).length<=2:=by simp;omega
   match hw:w.drop 7 with
   | []=>rfl
   | [_]=>rfl
   | [_,_]=>rfl
   | _::_::_::r=>rw[hw] at hlen;simp at hlen<;>omega
  rw[ht,Option.map_map]
  exact this
theorem Og (w:List (List uA)) (hl:w.length<=1000000):∃ x b,mT w=some (x,b)/\(match pJ w with|some r=>b=true/\x=r|none=>b=false):=by
 unfold mT
 by_cases h7:w.length<7
 ·rw[ae (λh=>by first|omega|(simp at h;done)|(simp at h;omega)),ae (λh=>by first|omega|(simp at h;done)|(simp at h;omega)),if_pos (by simp<;>omega)]
  refine ⟨_,_,rfl,?_⟩
  rw[Jn (i:=6) (by omega) (.inl (by rw[List.getElem?_eq_none (by omega)]))]
 ·match w,h7 with
  | [],h=>exact absurd (by simp) h
  | [_],h=>exact absurd (by simp) h
  | [_,_],h=>exact absurd (by simp) h
  | [_,_,_],h=>exact absurd (by simp) h
  | [_,_,_,_],h=>exact absurd (by simp) h
  | [_,_,_,_,_],h=>exact absurd (by simp) h
  | [_,_,_,_,_,_],h=>exact absurd (by simp) h
  | k::s1::s2::a::b::t::u::rest,_ =>
   simp only[show Int.toNat 0=0 from rfl,show Int.toNat 1=1 from rfl,show Int.toNat 2=2 from rfl,show Int.toNat 3=3 from rfl,show Int.toNat 4=4 from rfl,show Int.toNat 5=5 from rfl,show Int.toNat 6=6 from rfl]
   have e0:nth (k::s1::s2::a::b::t::u::rest) 0=k:=rfl
   have e1:nth (k::s1::s2::a::b::t::u::rest) 1=s1:=rfl
   have e2:nth (k::s1::s2::a::b::t::u::rest) 2=s2:=rfl
   have e3:nth (k::s1::s2::a::b::t::u::rest) 3=a:=rfl
   have e4:nth (k::s1::s2::a::b::t::u::rest) 4=b:=rfl
   have e5:nth (k::s1::s2::a::b::t::u::rest) 5=t:=rfl
   have e6:nth (k::s1::s2::a::b::t::u::rest) 6=u:=rfl
   have hd:(k::s1::s2::a::b::t::u::rest).drop 7=rest:=rfl
   have hlen:((k::s1::s2::a::b::t::u::rest).length:Int)=(rest.length:Int)+7:=by simp only[List.length_cons];omega
   have hj:=λbb=>TS (b:=bb) (w:=k::s1::s2::a::b::t::u::rest) (y1:=pt k) (y2:=ff s1) (y3:=ff s2) (y4:=ff t) (y5:=ff u) (by simp) hl
   rw[e0,e1,e2,e3,e4,e5,e6]
   simp only[e3,hd] at hj
   generalize hW:k::s1::s2::a::b::t::u::rest=W at hlen hj ⊢
   rw[hlen,ae (λ_=>by omega),ae (λ_=>by omega)]
   by_cases uN:a=[]∨b=[]
   ·rw[if_pos (by
     simp only[Bool.or_eq_true,decide_eq_true_eq,beq_iff_eq]
     rcases uN with h|h
     ·exact .inl (.inr (by rw[h];rfl))
     ·exact .inr (by rw[h];rfl))]
    refine ⟨_,_,rfl,?_⟩
    rw[←hW]
    unfold pJ
    simp only
    rw[if_neg (λhh=>by rcases uN with h|h;exact hh.2.2.2.1 h;exact hh.2.2.2.2.1 h)]
    trivial
   ·have ha:a≠[]:=λh=>uN (.inl h)
    have hb:b≠[]:=λh=>uN (.inr h)
    rw[if_neg (by
     simp only[Bool.or_eq_true,decide_eq_true_eq,beq_iff_eq,not_or]
     refine ⟨⟨by omega,?_⟩,?_⟩
     ·intro h;exact ha (by simpa using h)
     ·intro h;exact hb (by simpa using h))]
    rw[ae (by omega),Rh,Option.bind_some,ae (by omega),rB,Option.bind_some,ae (by omega),rB,Option.bind_some,ae (by omega),ae (by omega),ae (by omega),rB,Option.bind_some,ae (by omega),rB,Option.bind_some]
    have X4:RK (if (b==([45]:List uA))=true then dz W (pt k) (ff s1) (ff s2) (ff t) (ff u) [] else dz W (pt k) (ff s1) (ff s2) (ff t) (ff u) b) (okB (pt k) (ff s1) (ff s2) (ff t) (ff u) 0 0) ((zK rest).map λx=>⟨ff s1,ff s2,pt k,a,bF b,ff t,ff u,x.1,x.2.1,x.2.2.1,x.2.2.2.1,x.2.2.2.2⟩):=by
     unfold bF
     by_cases N9:b=[45]
     ·rw[if_pos (by simpa using N9),if_pos N9];exact hj _
     ·rw[if_neg (by simpa using N9),if_neg N9];exact hj _
    obtain ⟨x,bb,h1,h2⟩:=X4
    refine ⟨x,bb,h1,?_⟩
    rw[←hW]
    unfold pJ
    simp only
    by_cases hc:0<pt k/\vK s1=true/\vK s2=true/\a≠[]/\b≠[]/\vK t=true/\vK u=true
    ·rw[if_pos hc]
     obtain ⟨c0,c1,c2,c3,c4,c5,c6⟩:=hc
     have v1:ff s1=dL 0 s1:=by unfold ff;rw[if_pos c1]
     have v2:ff s2=dL 0 s2:=by unfold ff;rw[if_pos c2]
     have v5:ff t=dL 0 t:=by unfold ff;rw[if_pos c5]
     have v6:ff u=dL 0 u:=by unfold ff;rw[if_pos c6]
     have n1:=sV c1
     have n2:=sV c2
     have n5:=sV c5
     have n6:=sV c6
     rw[v1,v2,v5,v6] at h2
     have vJ:okB (pt k) (dL 0 s1) (dL 0 s2) (dL 0 t) (dL 0 u) 0 0=true:=by unfold okB;simp;omega
     rw[vJ] at h2
     exact h2
    ·rw[if_neg hc]
     have vJ:okB (pt k) (ff s1) (ff s2) (ff t) (ff u) 0 0=false:=by
      unfold okB
      by_cases c0:0<pt k
      ·cases c1:vK s1 with
       | false=>simp[oW.2 c1]
       | true =>
       cases c2:vK s2 with
       | false=>simp[oW.2 c2]
       | true =>
       cases c5:vK t with
       | false=>simp[oW.2 c5]
       | true =>
       cases c6:vK u with
       | false=>simp[oW.2 c6]
       | true=>exact absurd ⟨c0,c1,c2,ha,hb,c5,c6⟩ hc
      ·simp[c0]
     rw[vJ] at h2
     cases dO:zK rest with
     | none=>rw[dO] at h2;exact h2
     | some y=>rw[dO] at h2;exact h2.1
theorem Fc {w:O (O uA)} {x:aa} {m:Nat} (h:pJ w=some x) (hw:∀ s,s∈w->s.length<=m):x.a.length<=m/\x.b.length<=m:=by
 unfold pJ at h
 split at h
 ·rename_i k s1 s2 a b t u rest
  split at h
  ·obtain ⟨y,hy,rfl⟩:=Option.map_eq_some_iff.1 h
   refine ⟨hw a (by simp),?_⟩
   show (bF b).length<=m
   unfold bF
   split
   ·simp
   ·exact hw b (by simp)
  ·cases h
 ·cases h
theorem Jp (line:O uA) (hl:line.length<=100000):kF line=some (xh line):=by
 unfold kF xh
 rw[Oe line hl,Option.bind_some]
 have hlen:=zG 32 line
 obtain ⟨x,b,h1,h2⟩:=Og (gf 32 line) (by omega)
 rw[h1,Option.bind_some]
 cases hp:pJ (gf 32 line) with
 | none =>
  rw[hp] at h2
  rw[if_pos (by simp[h2])]
  rfl
 | some r =>
  rw[hp] at h2
  obtain ⟨rfl,rfl⟩:=h2
  rw[if_neg (by simp)]
  have hs:=Fc hp (m:=line.length) (λs hs=>(sU 32 line s hs).2)
  rw[Jm x (by omega) (by omega),Option.bind_some]
  show _=some (fin line x)
  unfold fin
  by_cases he:cr x=0
  ·rw[if_neg (by simp[he]),if_pos he]
   by_cases Mg:oS x=line
   ·rw[if_neg (by simp[Mg]),if_neg (by simp[he]),if_neg (by simp[Mg])]
   ·rw[if_pos (by simp[Mg]),if_neg (by simp[he]),if_pos Mg]
    rfl
  ·rw[if_pos (by simpa using he),if_pos he]
   rfl
theorem GC {line:O uA} (h:(xh line).2=0):cr (xh line).1=0/\oS (xh line).1=line:=by
 unfold xh at h ⊢
 cases hp:pJ (gf 32 line) with
 | none=>rw[hp] at h;simp at h
 | some x =>
  rw[hp] at h
  simp only at h ⊢
  unfold fin at h ⊢
  by_cases he:cr x=0
  ·rw[if_neg (by simp[he])] at h ⊢
   by_cases hl:oS x=line
   ·rw[if_neg (by simp[hl])];exact ⟨he,hl⟩
   ·rw[if_pos hl] at h;simp at h
  ·rw[if_pos he] at h;exact absurd h he
def iV (s:O uA):O (O uA)×Int:=if s≠[]/\nth s (s.length-1)≠10 then ([],1) else if 4096<(gf 10 s).length-1 then ([],5) else ((gf 10 s).dropLast,0)
theorem Mh {a:O uA} {l:O (O uA)} (h:l.tail≠[]):(pre a l).dropLast=(a++l.headD [])::l.tail.dropLast:=by
 unfold pre
 cases ht:l.tail with
 | nil=>exact absurd ht h
 | cons x y=>rfl
theorem Mi (s:O uA) (hl:s.length<=100000):mR s=some (iV s):=by
 unfold mR iV
 have dq:(s != ([]:O uA))=true↔s≠[]:=by simp
 have No:s≠[]->0<s.length:=λh=>List.length_pos_iff.2 h
 rw[ae (λh=>by omega),ae (λh=>by have:=No (dq.1 h);omega)]
 have hn:((s.length:Int) - 1).toNat=s.length-1:=by omega
 rw[hn]
 by_cases hc:s≠[]/\nth s (s.length-1)≠10
 ·rw[if_pos (by simpa using hc),if_pos hc]
 ·rw[if_neg (by simpa using hc),if_neg hc]
  have:=cy (step:=λst=>kA s st.1 st.2.1 st.2.2) (λst:O (O uA)×Int×Int=>eU (st.1++(pre ((s.take st.2.2.toNat).drop st.2.1.toNat) (gf 10 (s.drop st.2.2.toNat))).dropLast))
   (λst=>0<=st.2.1/\st.2.1<=st.2.2/\st.2.2<=(s.length:Int)/\(st.1.length:Int)<=st.2.2) (λst=>((s.length:Int) - st.2.2).toNat) (λst hI=>by
    obtain ⟨out,fr,i⟩:=st
    obtain ⟨i0,i1,i2,i3⟩:=hI
    simp only at i0 i1 i2 i3 ⊢
    unfold kA
    by_cases hi:i<(s.length:Int)
    ·rw[if_pos (by simpa using hi),ae (by omega)]
     rw[cR (show i.toNat<s.length by omega)]
     by_cases hn:nth s i.toNat=10
     ·rw[if_pos (by simpa using hn),ae (by omega),ae (by simp;omega),ae (by omega),ae (by omega)]
      refine .inr ⟨_,rfl,⟨by simp only;omega,by simp only;omega,by simp only;omega,by simp;omega⟩,by simp only;omega,?_⟩
      simp only
      rw[hn,zF,show (i+1).toNat=i.toNat+1 from by omega]
      have:((s.take (i.toNat+1)).drop (i.toNat+1))=[]:=by rw[List.drop_of_length_le];simp;omega
      rw[this,xI,Mh (by simpa using H0 _ _)]
      simp
     ·rw[if_neg (by simpa using hn),ae (by omega)]
      refine .inr ⟨_,rfl,⟨by simp only;omega,by simp only;omega,by simp only;omega,by simp only;omega⟩,by simp only;omega,?_⟩
      simp only
      rw[wC hn,show (i+1).toNat=i.toNat+1 from by omega,ya (show i.toNat<s.length by omega),List.drop_append_of_le_length (by simp;omega)]
      simp[pre]
    ·rw[if_neg (by simpa using hi)]
     have hd:s.drop i.toNat=[]:=List.drop_of_length_le (by omega)
     rw[hd]
     have:(pre ((s.take i.toNat).drop fr.toNat) (gf 10 [])).dropLast=[]:=rfl
     rw[this,List.append_nil]
     unfold eU
     split
     ·exact .inl ⟨_,rfl,rfl⟩
     ·exact .inl ⟨_,rfl,rfl⟩) (s:=([],0,0)) ⟨by simp,by simp,by simp,by simp⟩ (by simp only;omega)
  rw[this]
  simp only[show Int.toNat 0=0 from rfl,List.take_zero,List.drop_nil,List.nil_append,List.drop_zero,xI]
  unfold eU
  have hlen:(gf 10 s).dropLast.length=(gf 10 s).length-1:=by simp
  by_cases h5:4096<(gf 10 s).length-1
  ·rw[if_pos (by rw[hlen];simp;omega),if_pos h5]
  ·rw[if_neg (by rw[hlen];simp;omega),if_neg h5]
def uK:List (List uA)->List aa
 | []=>[]
 | x::r=>if (xh x).2=0 then (xh x).1::uK r else uK r
def xi:Int->List (List uA)->List aj
 | _,[]=>[]
 | i,x::r=>if (xh x).2=0 then xi (i+1) r else ⟨0,0,i,(xh x).2⟩::xi (i+1) r
def wA (s:O uA):O aa×O aj×Int:=if (iV s).2≠0 then ([],[],(iV s).2) else (uK (iV s).1,xi 0 (iV s).1,0)
theorem GD {s w:O uA} (h:w∈(iV s).1):w.length<=s.length/\free 10 w:=by
 unfold iV at h
 split at h
 ·simp at h
 ·split at h
  ·simp at h
  ·have:=sU 10 s w (List.dropLast_subset _ h)
   exact ⟨this.2,this.1⟩
theorem zL (s:O uA):(iV s).1.length<=s.length:=by
 unfold iV
 split
 ·simp
 ·split
  ·simp
  ·have:=zG 10 s
   simp;omega
theorem Rj (s:O uA) (hl:s.length<=100000):qc s=some (wA s):=by
 unfold qc wA
 rw[Mi s hl,Option.bind_some]
 by_cases he:(iV s).2=0
 ·rw[if_neg (by simp[he]),if_neg (by simp[he])]
  have hm:∀ w,w∈(iV s).1->w.length<=100000:=λw hw=>by have:=(GD hw).1;omega
  have Mg:=zL s
  generalize iV s=y at hm Mg he ⊢
  have:=cy (step:=λst=>nD y st.1 st.2.1 st.2.2) (λst:O aa×O aj×Int=>some (st.1++uK (y.1.drop st.2.2.toNat),st.2.1++xi st.2.2 (y.1.drop st.2.2.toNat),(0:Int)))
   (λst=>0<=st.2.2/\st.2.2<=(y.1.length:Int)/\(st.1.length:Int)<=st.2.2/\(st.2.1.length:Int)<=st.2.2) (λst=>((y.1.length:Int) - st.2.2).toNat) (λst hI=>by
    obtain ⟨out,no,i⟩:=st
    obtain ⟨i0,i1,i2,i3⟩:=hI
    simp only at i0 i1 i2 i3 ⊢
    unfold nD
    by_cases hi:i<(y.1.length:Int)
    ·rw[if_pos (by simpa using hi),ae (by omega),Jp _ (hm _ (by rw[eE (show i.toNat<y.1.length by omega)];exact List.getElem_mem _)),Option.bind_some]
     rw[cR (show i.toNat<y.1.length by omega)]
     by_cases hd:(xh (nth y.1 i.toNat)).2=0
     ·rw[if_pos (by simp[hd]),ae (by simp;omega),ae (by omega)]
      refine .inr ⟨_,rfl,⟨by simp only;omega,by simp only;omega,by simp;omega,by simp only;omega⟩,by simp only;omega,?_⟩
      simp only
      rw[show (i+1).toNat=i.toNat+1 from by omega]
      simp[uK,xi,hd]
     ·rw[if_neg (by simpa using hd),ae (by simp;omega),ae (by omega)]
      refine .inr ⟨_,rfl,⟨by simp only;omega,by simp only;omega,by simp only;omega,by simp;omega⟩,by simp only;omega,?_⟩
      simp only
      rw[show (i+1).toNat=i.toNat+1 from by omega]
      simp[uK,xi,hd]
    ·rw[if_neg (by simpa using hi)]
     refine .inl ⟨_,rfl,?_⟩
     rw[List.drop_of_length_le (by omega)]
     simp[uK,xi]) (s:=([],[],0)) ⟨by simp,by simp,by simp,by simp⟩ (by simp only;omega)
  rw[this]
  simp
 ·rw[if_pos (by simpa using he),if_pos he]
theorem Fe:∀ l:O (O uA),(uK l).length<=l.length
 | []=>by simp[uK]
 | x::r=>by
  have:=Fe r
  unfold uK
  split
  ·simp;omega
  ·simp;omega
theorem Ff:∀ (l:O (O uA)) (i:Int),(xi i l).length<=l.length
 | [],i=>by simp[xi]
 | x::r,i=>by
  have:=Ff r (i+1)
  unfold xi
  split
  ·simp;omega
  ·simp;omega
theorem Mj (s:O uA):(wA s).1.length<=s.length/\(wA s).2.1.length<=s.length:=by
 have h:=zL s
 have h1:=Fe (iV s).1
 have h2:=Ff (iV s).1 0
 unfold wA
 split
 ·simp
 ·exact ⟨by simp only;omega,by simp only;omega⟩
end Go.Proofs.Ytpdanklncjopoaa.C9
namespace Go.Proofs.Ytpdanklncjopoaa.C12
open Go.RowKit Go.Abs
def pK (f:Int) (b:O uA):O aa×O aj×Int:=if f=2 then C10.vF 0 [] [] b else if f=3 then C11.wA b else C9.wA b
theorem Jq (f:Int) (hf:1<=f/\f<=3) (b:O uA) (hb:b.length<=100000):qg f b=some (pK f b):=by
 unfold qg pK
 by_cases h1:f=1
 ·rw[if_pos (by simpa using h1),if_neg (by omega),if_neg (by omega),C9.Rj b hb];rfl
 ·rw[if_neg (by simpa using h1)]
  by_cases h2:f=2
  ·rw[if_pos (by simpa using h2),if_pos h2,C10.Ma b hb];rfl
  ·rw[if_neg (by simpa using h2),if_neg h2,if_pos (by omega),C11.L2 b hb];rfl
theorem zM (f:Int) (b:O uA):(pK f b).1.length<=b.length/\(pK f b).2.1.length<=b.length:=by
 unfold pK
 split
 ·have:=C10.L9 b.length b 0 [] [] (Nat.le_refl _)
  simpa using this
 ·split
  ·unfold C11.wA
   split
   ·simp
   ·split
    ·simp
    ·have h1:=C11.EX b (b.length / 45) 0
     have h2:=C11.EY b (b.length / 45) 0
     simp only;omega
  ·exact C9.Mj b
def B0:Batch:=⟨0,0,0,[]⟩
def pw (b:O uA):Batch×O aj×Int :=
 if (nN b).2.2≠0 then (B0,[],(nN b).2.2) else
 let u:=jO (nN b).2.1
 if u.2.2≠0 then (B0,[],u.2.2) else
 let d:=pK (nN b).1.format u.1
 if d.2.2≠0 then (B0,[],d.2.2) else
 let t:=N1 u.2.1
 if t.2≠0 then (B0,[],t.2) else
 if ((!(jy (cu.j6 t.1) (cu.j6 ⟨(d.1.length:Int),TD d.1⟩))) || ((nN b).1.count != (d.1.length:Int)))=true then (B0,[],14) else
 if d.1.all (λr=>r.source==(nN b).1.source)=true then (⟨(nN b).1.source,(nN b).1.number,(nN b).1.format,d.1⟩,d.2.1,0) else (B0,[],8)
theorem H3 (b:O uA):(nN b).2.1.length<=b.length:=by
 have:=vB b
 unfold nN
 split
 ·simp
 ·split
  ·simp
  ·split
   ·simp
   ·simp only;omega
theorem Oh {b:O uA} (h:(nN b).2.2=0):RH (nN b).1=0:=by
 unfold nN at h ⊢
 split at h
 ·rename_i h1;exact absurd h h1
 ·rename_i h1
  rw[if_neg h1]
  split at h
  ·rename_i h2;exact absurd h h2
  ·rename_i h2
   rw[if_neg h2]
   split at h
   ·rename_i h3;exact absurd h h3
   ·rename_i h3
    rw[if_neg h3]
    simpa using h3
theorem Rk {h:Head} (e:RH h=0):(1<=h.source/\h.source<=99)/\(1<=h.number/\h.number<=999999999)/\(1<=h.format/\h.format<=3)/\0<=h.count/\h.count<=4096:=by
 unfold RH at e
 by_cases h1:(h.source<1∨99<h.source)∨(h.number<1∨999999999<h.number)
 ·have:Cv h.source h.number h.format=6:=if_pos h1
  rw[this,if_neg (by decide)] at e;cases e
 ·by_cases h2:h.format<1∨3<h.format
  ·have:Cv h.source h.number h.format=7:=by unfold Cv;rw[if_neg h1,if_pos h2]
   rw[this,if_neg (by decide)] at e;cases e
  ·have:Cv h.source h.number h.format=0:=by unfold Cv;rw[if_neg h1,if_neg h2]
   rw[if_pos this] at e
   by_cases h3:h.count<0∨4096<h.count
   ·rw[if_pos h3] at e;cases e
   ·omega
theorem Mk (y1:Head×O uA×Int) (y3:O aa×O aj×Int) (hl:y3.1.length<=100000):loop (λs=>jH y1 y3 s) 0=some (if y3.1.all (λr=>r.source==y1.1.source)=true then ((⟨y1.1.source,y1.1.number,y1.1.format,y3.1⟩:Batch),y3.2.1,(0:Int)) else (B0,[],8)):=by
 refine Eh y3.1 (λr=>r.source==y1.1.source) _ _ (by omega) (λi h0 hi=>?_) (λi hi=>?_)
 ·unfold jH
  rw[if_pos (by simpa using hi),ae ⟨h0,hi⟩]
  by_cases h:(nth y3.1 i.toNat).source=y1.1.source
  ·rw[if_neg (by simp[h]),ae (by omega),if_pos (by simp[h])]
  ·rw[if_pos (by simpa using h),if_neg (by simpa using h)];rfl
 ·subst hi
  unfold jH
  rw[if_neg (by simp)];rfl
theorem Oi (b:O uA) (hb:b.length<=100000):oI b=some (pw b):=by
 unfold oI pw
 have l1:=H3 b
 rw[LW b hb]
 simp only[Option.bind_some]
 by_cases e1:(nN b).2.2=0
 ·have l2:=vB (nN b).2.1
  have hf:=(Rk (Oh e1)).2.2.1
  simp only[e1,ne_eq,not_true_eq_false,if_false]
  rw[if_neg (by decide),wx _ (by omega)]
  simp only[Option.bind_some]
  generalize jO (nN b).2.1=u at *
  by_cases e2:u.2.2=0
  ·have l3:=zM (nN b).1.format u.1
   simp only[e2,not_true_eq_false,if_false]
   rw[if_neg (by decide),Jq _ hf _ (by omega)]
   simp only[Option.bind_some]
   generalize hd:pK (nN b).1.format u.1=d at *
   by_cases e3:d.2.2=0
   ·simp only[e3,not_true_eq_false,if_false]
    rw[if_neg (by decide),Gx _ (by omega)]
    simp only[Option.bind_some]
    by_cases e4:(N1 u.2.1).2=0
    ·simp only[e4,not_true_eq_false,if_false]
     rw[if_neg (by decide),I9 _ (by omega)]
     simp only[Option.bind_some]
     rw[Mk _ _ (by omega)]
     split<;>rfl
    ·simp only[e4,not_false_eq_true,if_true]
     rw[if_pos (by simpa using e4)];rfl
   ·simp only[e3,not_false_eq_true,if_true]
    rw[if_pos (by simpa using e3)];rfl
  ·simp only[e2,not_false_eq_true,if_true]
   rw[if_pos (by simpa using e2)];rfl
 ·simp only[e1,ne_eq,not_false_eq_true,if_true]
  rw[if_pos (by simpa using e1)];rfl
theorem Jr (b:O uA):(pw b).1.records.length<=b.length/\(pw b).2.1.length<=b.length:=by
 have l1:=H3 b
 have l2:=vB (nN b).2.1
 have l3:=zM (nN b).1.format (jO (nN b).2.1).1
 unfold pw
 simp only
 split
 ·simp[B0]
 ·split
  ·simp[B0]
  ·split
   ·simp[B0]
   ·split
    ·simp[B0]
    ·split
     ·simp[B0]
     ·split
      ·simp only;omega
      ·simp[B0]
def RL (l:O aa):Prop:=∀ r,r∈l->cr r=0
end Go.Proofs.Ytpdanklncjopoaa.C12
namespace Go.Proofs.Ytpdanklncjopoaa.C9
open Go.RowKit Go.Abs
def Ml (xs:O (O uA)):O uA:=(xs.map (·++[10])).flatten
end Go.Proofs.Ytpdanklncjopoaa.C9
namespace Go.Proofs.Ytpdanklncjopoaa.C12
open Go.RowKit Go.Abs
theorem wD (x:O uA) (l:O (O uA)):C9.Ml (x::l)=x++10::C9.Ml l:=by simp[C9.Ml]
theorem Fg:∀ (ws:O (O uA)) (i:Int),RL (C9.uK ws)/\(C9.Ml ((C9.uK ws).map oS)).length<=(C9.Ml ws).length/\(C9.xi i ws=[]->(C9.uK ws).map oS=ws)
 | [],i=>⟨(λr hr=>by cases hr),by simp[C9.uK],λ_=>rfl⟩
 | w::ws,i=>by
  obtain ⟨h1,h2,h3⟩:=Fg ws (i+1)
  unfold C9.uK C9.xi
  by_cases hd:(C9.xh w).2=0
  ·obtain ⟨d1,d2⟩:=C9.GC hd
   rw[if_pos hd,if_pos hd]
   refine ⟨λr hr=>?_,?_,λhn=>?_⟩
   ·rcases List.mem_cons.1 hr with rfl|hr
    ·exact d1
    ·exact h1 r hr
   ·rw[List.map_cons,wD,wD,d2]
    simp only[List.length_append,List.length_cons];omega
   ·rw[List.map_cons,d2,h3 hn]
  ·rw[if_neg hd,if_neg hd]
   refine ⟨h1,?_,λhn=>by cases hn⟩
   rw[wD]
   simp only[List.length_append,List.length_cons];omega
theorem Fh (b:O uA):∀ n i:Nat,(i+n)*45<=b.length->RL (C11.vD b i n)/\(C11.xe b i n=[]->((C11.vD b i n).map C11.Gz).flatten=C11.cut b (i*45) (n*45))
 | 0,i,_=>⟨(λr hr=>by cases hr),λ_=>by simp[C11.vD,C11.cut]⟩
 | n+1,i,hl=>by
  obtain ⟨h1,h2⟩:=Fh b n (i+1) (by omega)
  unfold C11.vD C11.xe
  by_cases hd:(C11.jZ (C11.cut b (i*45) 45)).2=0
  ·obtain ⟨d1,d2⟩:=C11.GA hd
   rw[if_pos hd,if_pos hd]
   refine ⟨λr hr=>?_,λhn=>?_⟩
   ·rcases List.mem_cons.1 hr with rfl|hr
    ·exact d2
    ·exact h1 r hr
   ·rw[List.map_cons,List.flatten_cons,d1,h2 hn,show (i+1)*45=i*45+45 from by omega,C11.iU,show 45+n*45=(n+1)*45 from by omega]
  ·rw[if_neg hd,if_neg hd]
   exact ⟨h1,λhn=>by cases hn⟩
end Go.Proofs.Ytpdanklncjopoaa.C12
namespace Go.Proofs.Ytpdanklncjopoaa
open Go.RowKit Go.Abs
theorem Oj:mP=some true:=by kernel_rfl
abbrev Ol:Nat:=9223372036854775807
theorem Rl (cb:O Event) (files:O (O uA)) (h1:cb.length<=Ol) (h2:files.length<=Ol) (hs:Tu cb) :
  ∃ c,oz cb files=some c/\(c=true->cb.length<=24/\VC b0 0 cb/\files.length<=6/\∀ f,f∈files->f.length<=2000):=by
 unfold oz
 by_cases hc:((decide ((cb.length:Int) > 24)) || (decide ((files.length:Int) > 6)))=true
 ·rw[if_pos hc];exact ⟨false,rfl,λh=>by cases h⟩
 ·rw[if_neg hc]
  have ha:cb.length<=24/\files.length<=6:=by simp at hc;omega
  obtain ⟨x,hx,hv⟩:=HF cb 0 0 b0 0 VJ (by omega) hs
  have hj:gU cb=some (x.2==0):=by
   unfold gU
   rw[Gs cb (by omega) hs,hx];rfl
  obtain ⟨r,hr,hq⟩:=ka (step:=λs=>ml cb files s) (λc=>c=true->VC b0 0 cb/\∀ f,f∈files->f.length<=2000)
   (λi=>0<=i/\i<=(files.length:Int)/\∀ k:Nat,(k:Int)<i->(nth files k).length<=2000) (λi=>((files.length:Int) - i).toNat) (λi ⟨i0,i1,i2⟩=>by
    unfold ml
    by_cases hi:i<(files.length:Int)
    ·rw[if_pos (by simpa using hi),ae ⟨i0,hi⟩]
     by_cases hl:((nth files i.toNat).length:Int) > 2000
     ·rw[if_pos (by simpa using hl)]
      exact .inl ⟨false,rfl,λh=>by cases h⟩
     ·rw[if_neg (by simpa using hl),ae ⟨by omega,by omega⟩]
      refine .inr ⟨_,rfl,⟨by omega,by omega,λk hk=>?_⟩,by omega⟩
      by_cases e:(k:Int)=i
      ·have:k=i.toNat:=by omega
       rw[this];omega
      ·exact i2 k (by omega)
    ·rw[if_neg (by simpa using hi),hj]
     refine .inl ⟨_,rfl,λh=>⟨hv (by simpa using h),λf hf=>?_⟩⟩
     obtain ⟨k,hk,rfl⟩:=List.mem_iff_getElem.1 hf
     have:=i2 k (by omega)
     rwa [eE hk] at this) (s:=0) ⟨by omega,by omega,λk hk=>by omega⟩ (by omega)
  exact ⟨r,hr,λh=>⟨ha.1,(hq h).1,ha.2,(hq h).2⟩⟩
theorem Om (l:O Element) (ok:Bool) (r:aa) (h:(C10.xf ok r l).2=0):cr (C10.xf ok r l).1=0:=by
 unfold C10.xf C10.Oa at h ⊢
 split at h
 ·rename_i hk
  rw[if_pos hk]
  cases hf:C10.E6 r l with
  | none=>rw[hf] at h;cases h
  | some q =>
   rw[hf] at h
   simp only at h ⊢
   by_cases he:cr q≠0
   ·rw[if_pos he] at h;exact absurd h he
   ·rw[if_neg he]
    exact by simpa using he
 ·cases h
theorem On {b:O uA} (h:(C10.xg b).2=0):cr (C10.xg b).1=0:=by
 unfold C10.xg at h ⊢
 split at h
 ·cases h
 ·rename_i h1
  rw[if_neg h1]
  split at h
  ·cases h
  ·rename_i h2
   rw[if_neg h2]
   split at h
   ·exact absurd h (by assumption)
   ·rename_i h3
    rw[if_neg h3]
    exact Om _ _ _ h
theorem Oo:∀ (n:Nat) (b:O uA) (i:Nat) (out:O aa) (no:O aj),b.length<=n->C12.RL out->(C10.vF i out no b).2.2=0->C12.RL (C10.vF i out no b).1:=by
 intro n
 induction n with
 | zero =>
  intro b i out no h ho _
  rw[C10.vF,if_pos (by omega)]
  exact ho
 | succ n ih =>
  intro b i out no h ho he
  rw[C10.vF] at he ⊢
  by_cases c1:b.length=0
  ·rw[if_pos c1];exact ho
  rw[if_neg c1] at he ⊢
  by_cases c2:i=4096
  ·rw[if_pos c2] at he;cases he
  rw[if_neg c2] at he ⊢
  by_cases c3:b.length<2∨b.length-2<C10.ki b
  ·rw[if_pos c3] at he;cases he
  rw[if_neg c3] at he ⊢
  by_cases c4:(C10.xg (b.take (2+C10.ki b))).2≠0
  ·rw[if_pos c4] at he ⊢
   exact ih _ (i+1) out _ (by simp;omega) ho he
  ·rw[if_neg c4] at he ⊢
   refine ih _ (i+1) _ no (by simp;omega) (λr hr=>?_) he
   rcases List.mem_append.1 hr with hr|hr
   ·exact ho r hr
   ·rw[List.mem_singleton] at hr
    subst hr
    exact On (by simpa using c4)
theorem GC {f:Int} {b:O uA} (h:(C12.pK f b).2.2=0):C12.RL (C12.pK f b).1:=by
 unfold C12.pK at h ⊢
 split at h
 ·rename_i h2
  rw[if_pos h2]
  exact Oo b.length b 0 [] [] (Nat.le_refl _) (λr hr=>by cases hr) h
 ·rename_i h2
  rw[if_neg h2]
  split at h
  ·rename_i h3
   rw[if_pos h3]
   unfold C11.wA at h ⊢
   by_cases c:b.length % 45=0
   rotate_left
   ·rw[if_pos c] at h;cases h
   rw[if_neg (by simp[c])] at h ⊢
   by_cases c2:b.length / 45 > 4096
   ·rw[if_pos c2] at h;cases h
   rw[if_neg c2]
   exact (C12.Fh b (b.length / 45) 0 (by omega)).1
  ·rename_i h3
   rw[if_neg h3]
   unfold C9.wA at h ⊢
   by_cases c:(C9.iV b).2=0
   rotate_left
   ·rw[if_pos c] at h;exact absurd h c
   rw[if_neg (by simp[c])]
   exact (C12.Fg (C9.iV b).1 0).1
theorem Oq {b:O uA} (h:(C12.pw b).2.2=0):C12.RL (C12.pw b).1.records:=by
 unfold C12.pw at h ⊢
 split at h
 ·exact absurd h (by assumption)
 rename_i h1
 rw[if_neg h1]
 simp only at h ⊢
 split at h
 ·exact absurd h (by assumption)
 rename_i h2
 rw[if_neg h2]
 split at h
 ·exact absurd h (by assumption)
 rename_i h3
 rw[if_neg h3]
 split at h
 ·exact absurd h (by assumption)
 rename_i h4
 rw[if_neg h4]
 split at h
 ·cases h
 rename_i h5
 rw[if_neg h5]
 split at h
 ·rename_i h6
  rw[if_pos h6]
  exact GC (by simpa using h3)
 ·cases h
structure tw (m:ao) (i:Int):Prop where
 pI:mj m
 TU:(m.usages.length+m.aI.length+m.ai.open_.length+m.bo.length:Int)<=2010*i
 seen:(m.ai.seen.length:Int)<=2010*i
 aX:(m.ai.aX.length:Int)<=i
theorem tw.up {m:ao} {i:Int} (h:tw m i):tw m (i+1):=⟨h.pI,by have:=h.TU;omega,by have:=h.seen;omega,by have:=h.aX;omega⟩
theorem tw.sm {m:ao} {i:Int} (h:tw m i) (hi:i<=6):LL m:=by
 have a:=h.TU;have b:=h.seen;have c:=h.aX
 exact h.pI.VQ (by omega) (by omega) (by omega) (by omega) (by omega) (by omega)
theorem tw.VR {m:ao} {i:Int} (h:tw m i) (hi:i<=6):TA m:=by
 have a:=h.TU;have b:=h.seen;have c:=h.aX
 exact h.pI.VR (h.sm hi) (by omega) (by omega) (by omega)
theorem tw.feed {cb:O Event} (hl:cb.length<=40) (hv:VC b0 0 cb) {m:ao} {i:Int} (h:tw m i) {b:Batch} {w:bJ} (hA:JC m.ai b) (hn:b.records.length<=2000) (he:(jN m.ai b w).2.2.2=0):tw (sQ cb m b w).1 (i+1):=by
 have a:=h.TU;have b':=h.seen;have c:=h.aX
 have ft:=I8 cb hl hv h.pI hA he
 have f1:=ft.len;have f2:=ft.seen;have f3:=ft.aX
 refine ⟨I7 cb hl hv h.pI hA he,?_,?_,?_⟩<;>omega
theorem Js:tw Gt 0:=by
 have g:ux Gt.ai:=⟨rfl,⟨by simp[Gt],by simp[Gt]⟩,Nv,by
    rw[xx];intro k _ _;exact Int.le_refl _,rfl⟩
 refine ⟨⟨g,λk hk=>absurd hk (by simp[Gt]),λr hr=>absurd hr (by simp[Gt]),λr hr=>absurd hr (by simp[Gt]),λr hr=>absurd hr (by simp[Gt,sM]),λr hr=>absurd hr (by simp[Gt,sM]),by simp[Gt,sM],?_⟩,by simp[Gt],by simp[Gt],by simp[Gt]⟩
 rw[wv]
 simp[Gt,iT,o5]
abbrev GF:bJ:=⟨0,1073741824⟩
theorem Mm (cb:O Event) (hl:cb.length<=24) (hv:VC b0 0 cb) (m:ao) (f:O uA) (hf:f.length<=2000) (i:Int) (h:tw m i) (h0:0<=i) (hi:i<6) :
  ∃ n e,qm cb m f GF=some (n,e)/\tw n (i+1):=by
 unfold qm
 rw[C12.Oi f (by omega),Option.bind_some]
 by_cases he:(C12.pw f).2.2=0
 rotate_left
 ·rw[if_pos (by simpa using he)]
  exact ⟨_,_,rfl,h.up⟩
 ·rw[if_neg (by simpa using he)]
  have vJ:=Oq he
  have hlen:=(C12.Jr f).1
  have LD:∀ r,r∈(C12.pw f).1.records->Sm r:=λr hr=>xw (vJ r hr)
  have hm:=h.VR (by omega)
  rw[NO cb (by omega) hv m _ GF hm (by omega) LD,Option.bind_some]
  have hA:=hm.WJ (b:=(C12.pw f).1) (by omega) LD
  by_cases hc:(jN m.ai (C12.pw f).1 GF).2.2.2=0
  ·have e2:(sQ cb m (C12.pw f).1 GF).2=0:=by unfold sQ;rw[if_pos hc]
   rw[if_neg (by rw[e2];decide)]
   exact ⟨_,_,rfl,h.feed (by omega) hv hA (by omega) hc⟩
  ·have e2:(sQ cb m (C12.pw f).1 GF).2≠0:=by unfold sQ;rw[if_neg hc];exact hc
   rw[if_pos (by simpa using e2)]
   exact ⟨_,_,rfl,h.up⟩
theorem Jt (cb:O Event) (hl:cb.length<=24) (hv:VC b0 0 cb) (files:O (O uA)) (h6:files.length<=6) (hf:∀ f,f∈files->f.length<=2000) :
  ∃ m,qn cb GF files=some m/\tw m 6:=by
 unfold qn
 refine ka (step:=λs:Int×O Range×O aa×O Head×O aG×O aa×O aj=>nL cb GF files s.1 s.2.1 s.2.2.1 s.2.2.2.1 s.2.2.2.2.1 s.2.2.2.2.2.1 s.2.2.2.2.2.2) (λm=>tw m 6)
  (λs=>0<=s.1/\s.1<=(files.length:Int)/\tw (⟨⟨s.2.1,s.2.2.1,s.2.2.2.1⟩,s.2.2.2.2.1,s.2.2.2.2.2.1,s.2.2.2.2.2.2⟩:ao) s.1) (λs=>((files.length:Int) - s.1).toNat) ?_ (s:=((0:Int),([]:O Range),([]:O aa),([]:O Head),([]:O aG),([]:O aa),([]:O aj))) ⟨by simp,by simp,Js⟩ (by simp;omega)
 rintro ⟨i,s1,o1,g1,u1,w1,r1⟩ ⟨i0,i1,hR⟩
 simp only at i0 i1 hR ⊢
 unfold nL
 by_cases hi:i<(files.length:Int)
 ·rw[if_pos (by simpa using hi),ae ⟨i0,hi⟩]
  have hk:i.toNat<files.length:=by omega
  obtain ⟨n,e,h1,h2⟩:=Mm cb hl hv _ (nth files i.toNat) (hf _ (by rw[eE hk];exact List.getElem_mem hk)) i hR i0 (by omega)
  rw[h1,Option.bind_some,ae ⟨by omega,by omega⟩]
  exact .inr ⟨_,rfl,⟨by simp only;omega,by simp only;omega,h2⟩,by simp only;omega⟩
 ·rw[if_neg (by simpa using hi)]
  refine .inl ⟨_,rfl,?_⟩
  have a:=hR.TU;have b:=hR.seen;have c:=hR.aX
  exact ⟨hR.pI,by omega,by omega,by omega⟩
theorem GG (l:O aT) (hl:l.length<=1000):lS l l=some true:=by
 unfold lS
 rw[if_neg (by simp)]
 obtain ⟨r,hr,hq⟩:=ka (step:=λs=>mn l l s) (λc=>c=true) (λi=>0<=i/\i<=(l.length:Int)) (λi=>((l.length:Int) - i).toNat) (λi ⟨i0,i1⟩=>by
  unfold mn
  by_cases hi:i<(l.length:Int)
  ·rw[if_pos (by simpa using hi),ae ⟨i0,hi⟩,ae ⟨i0,hi⟩,if_neg (by simp[aT.j6,jy,PS]),ae ⟨by omega,by omega⟩]
   exact .inr ⟨_,rfl,⟨by omega,by omega⟩,by omega⟩
  ·rw[if_neg (by simpa using hi)]
   exact .inl ⟨_,rfl,rfl⟩) (s:=0) ⟨by omega,by omega⟩ (by omega)
 rw[hr,hq]
def wV (b:cx) (read:Int):O aT:=(if read=b.read then [] else [⟨1,1,read,b.read⟩])++(if b.read=(((b.accepted+b.merged)+b.rejected)+b.aV)+b.open_ then [] else [⟨1,2,b.read,(((b.accepted+b.merged)+b.rejected)+b.aV)+b.open_⟩])
structure TV (b:cx):Prop where
 s1:bN (b.accepted+b.merged)
 s2:bN ((b.accepted+b.merged)+b.rejected)
 s3:bN (((b.accepted+b.merged)+b.rejected)+b.aV)
 s4:bN ((((b.accepted+b.merged)+b.rejected)+b.aV)+b.open_)
theorem Mn {m:ao} (h:NL m):TV (ga m):=by
 obtain ⟨h1,h2,h3,h4,h5,h6⟩:=NM h
 have:=h.l1;have:=h.l2;have:=h.l3;have:=h.l4;have:=h.l5;have:=h.l6
 exact ⟨⟨by omega,by omega⟩,⟨by omega,by omega⟩,⟨by omega,by omega⟩,⟨by omega,by omega⟩⟩
theorem Mo (k a b:Int) (l:O aT) (hl:l.length<=1000):ef k a b l=some (l++if a=b then [] else [⟨1,k,a,b⟩]):=by
 unfold ef
 by_cases h:a=b
 ·rw[if_neg (by simp[h]),if_pos h,List.append_nil]
 ·rw[if_pos (by simpa using h),if_neg h,ae (by simp;omega)]
theorem Fi {m:ao} (h:NL m) (read:Int):dC m read=some (wV (ga m) read):=by
 have s:=Mn h
 unfold dC
 rw[I4 m h,Option.bind_some,Mo _ _ _ _ (by simp),Option.bind_some,ae s.s1,ae s.s2,ae s.s3,ae s.s4,Mo _ _ _ _ (by split<;>simp),Option.bind_some]
 rfl
theorem Ju {m:ao} (h:NL m) (read:Int):lu m read=some (wV (ga m) read):=by
 have s:=Mn h
 have hj:∀ l:O aT,l.length<=1000->eu (ga m) l=some (l++if (ga m).read=(((((ga m).accepted+(ga m).merged)+(ga m).rejected)+(ga m).aV)+(ga m).open_) then [] else [⟨1,2,(ga m).read,((((ga m).accepted+(ga m).merged)+(ga m).rejected)+(ga m).aV)+(ga m).open_⟩]):=λl hl=>by
  unfold eu
  by_cases e:(ga m).read=(((((ga m).accepted+(ga m).merged)+(ga m).rejected)+(ga m).aV)+(ga m).open_)
  ·rw[if_neg (by simpa using e),if_pos e,List.append_nil]
  ·rw[if_pos (by simpa using e),if_neg e,ae (by simp;omega)]
 unfold lu
 rw[zu m h,Option.bind_some,ae s.s1,ae s.s2,ae s.s3,ae s.s4]
 by_cases e:read=(ga m).read
 ·rw[if_neg (by simpa using e),hj _ (by simp)]
  unfold wV
  rw[if_pos e]
 ·rw[if_pos (by simpa using e),ae (by simp),hj _ (by simp)]
  unfold wV
  rw[if_neg e]
  rfl
theorem Ot {m:ao} (h:NL m):kg m=some m:=by
 have:=h.l1;have:=h.l2;have:=h.l3;have:=h.l4;have:=h.l5;have:=h.l6
 unfold kg
 rw[ae (by omega),ae (by omega),ae (by omega),ae (by omega),ae (by omega),ae (by omega)]
theorem Jv {b:cx} (h:HP b):wV b b.read=[]:=by
 unfold wV
 rw[if_pos rfl,if_pos h.2]
 rfl
theorem Fj (cb:O Event) (files:O (O uA)) (read:Int) (h1:cb.length<=Ol) (h2:files.length<=Ol) (hs:Tu cb):gz cb files read=some true:=by
 unfold gz
 obtain ⟨c,hc,hq⟩:=Rl cb files h1 h2 hs
 rw[hc,Option.bind_some,Oj]
 cases c with
 | false=>rfl
 | true =>
  obtain ⟨q1,q2,q3,q4⟩:=hq rfl
  obtain ⟨m,hm,hR⟩:=Jt cb q1 q2 files q3 q4
  have hb:NL m:=(hR.sm (by omega)).Un hR.pI.ai
  have hl:(wV (ga m) read).length<=1000:=by unfold wV;split<;>split<;>simp
  rw[if_neg (by simp),hm,Option.bind_some,zu m hb,Option.bind_some,Ot hb,Option.bind_some,Fi hb,Option.bind_some,Ju hb,Option.bind_some,GG _ hl,Option.bind_some]
  simp only[eG,if_true,Option.bind_some]
  rw[Fi hb,Jv hR.pI.Un]
  simp
end Go.Proofs.Ytpdanklncjopoaa
namespace Go.Abs
open Go.RowKit Go.ChangeShapes Go.WideShapes Go.Deep
inductive Sh where
 | i (k:IntKind)
 | b
 | s
 | sl (row:List Sh)
inductive fJ:Sh->D->Prop where
 | i (k:IntKind) (n:Int) (h:(Lit.int k n).wf=true):fJ (.i k) (.ex (.int k n))
 | b (x:Bool):fJ .b (.ex (.bool x))
 | s (l:List uA) (h:l.length<=maxLen):fJ .s (.ex (.string ⟨l.toArray⟩))
 | sl (row:List Sh) (rows:List (List D)) (hn:rows.length<=maxLen) (h1:∀ r,r∈rows->r.length=row.length)
   (h:∀ r,r∈rows->∀ (i:Nat) sh d,row[i]?=some sh->r[i]?=some d->fJ sh d):fJ (.sl row) (.sl row.length rows)
def vH (P:uG) (rec:uE->Option (List Sh)):List Field->Nat->Option (List Sh)
 | [],_=>some []
 | f::fs,off=>match rec f.type with
  | some r=>if Nat.beq f.offset off && Nat.beq r.length (P.cellsOf f.type) then (vH P rec fs (off+r.length)).map (r++·) else none
  | none=>none
def shape (P:uG):Nat->uE->Option (List Sh)
 | 0,_=>none
 | n+1,t=>match P.underlying t with
  | some (.int k)=>some [.i k]
  | some .bool=>some [.b]
  | some .string=>some [.s]
  | some (.slice e)=>match shape P n e with
   | some r=>if Nat.beq r.length (P.cellsOf e) && Nat.blt 0 r.length then some [.sl r] else none
   | none=>none
  | some (.struct fs)=>match vH P (shape P n) fs.toList 0 with
   | some r=>if Nat.beq r.length (P.cellsOf t) then some r else none
   | none=>none
  | _=>none
def qD (bl:Nat->Nat) (w:uC) (Jw:O Sh) (cs:O uB):Prop :=
 ∃ ds:O D,ds.length=Jw.length/\cs.length=Jw.length/\∀ (i:Nat) sh d c,Jw[i]?=some sh->ds[i]?=some d->cs[i]?=some c->fJ sh d/\cT bl w d c/\c.oneCell'=true
theorem qD.one {bl:Nat->Nat} {w:uC} {sh:Sh} {d:D} {c:uB} (h1:fJ sh d) (h2:cT bl w d c) (h3:c.oneCell'=true):qD bl w [sh] [c]:=by
 refine ⟨[d],rfl,rfl,λi YA d' c' ha hb hc=>?_⟩
 cases i with
 | zero=>simp at ha hb hc;subst ha;subst hb;subst hc;exact ⟨h1,h2,h3⟩
 | succ i=>simp at ha
theorem qD.nil {bl:Nat->Nat} {w:uC}:qD bl w [] []:=⟨[],rfl,rfl,λi _ _ _ h=>by simp at h⟩
theorem qD.append {bl:Nat->Nat} {w:uC} {s1 s2:O Sh} {c1 c2:O uB} (h:qD bl w s1 c1) (k:qD bl w s2 c2):qD bl w (s1++s2) (c1++c2):=by
 obtain ⟨d1,a1,b1,e1⟩:=h
 obtain ⟨d2,a2,b2,e2⟩:=k
 refine ⟨d1++d2,by simp[a1,a2],by simp[b1,b2],λi sh d c ha hb hc=>?_⟩
 by_cases hi:i<s1.length
 ·rw[List.getElem?_append_left hi] at ha
  rw[List.getElem?_append_left (by omega)] at hb hc
  exact e1 i sh d c ha hb hc
 ·rw[List.getElem?_append_right (by omega)] at ha hb hc
  rw[a1] at hb
  rw[b1] at hc
  exact e2 _ sh d c ha hb hc
section opening
variable {H:Type} {enc:uE×uB->H} {P:uG} {w:uC} {held:Bool} {bl:Nat->Nat}
theorem vI {rec:uE->J (O Sh)} (cs:O uB):∀ (fs:O Field) (off:Nat) (Jw:O Sh),vH P rec fs off=some Jw->cs.length=off+Jw.length ->
  (∀ (i:Nat) f,fs[i]?=some f->∀ r,rec f.type=some r->r.length=P.cellsOf f.type->qD bl w r ((cs.drop f.offset).take (P.cellsOf f.type)))->qD bl w Jw (cs.drop off)
 | [],off,Jw,h,hl,_=>by
  simp[vH] at h;subst h
  rw[List.drop_of_length_le (by simp at hl;omega)]
  exact .nil
 | f::fs,off,Jw,h,hl,hf=>by
  unfold vH at h
  split at h
  ·rename_i r hr
   split at h
   ·rename_i hc
    rw[Bool.and_eq_true] at hc
    replace hc:=And.intro (Nat.eq_of_beq_eq_true hc.1) (Nat.eq_of_beq_eq_true hc.2)
    obtain ⟨rest,HZ,rfl⟩:=Option.map_eq_some_iff.1 h
    simp only[List.length_append] at hl
    have h1:=hf 0 f rfl r hr hc.2
    have h2:=vI cs fs (off+r.length) rest HZ (by omega) λi g hg=>hf (i+1) g (by simpa using hg)
    have e:cs.drop off=(cs.drop f.offset).take (P.cellsOf f.type)++cs.drop (off+r.length):=by
     rw[hc.1,←hc.2,←List.drop_drop,List.take_append_drop]
    rw[e]
    exact h1.append h2
   ·cases h
  ·cases h
theorem sW (tR:∀ b off u,w.cell? ⟨b,off,none⟩=some u->off<bl b):∀ (n:Nat) (t:uE) (Jw:O Sh),shape P n t=some Jw->∀ fuel cs x,DataW.trod enc P w 0 (λ_=>true) held fuel t cs=some x->qD bl w Jw cs
 | 0,_,_,h=>by simp[shape] at h
 | n+1,t,Jw,h=>by
  intro fuel cs x ht
  unfold shape at h
  split at h
  ·rename_i k hu
   cases h
   obtain ⟨m,rfl,_,hw⟩:=DataW.trod_int hu ht
   exact .one (.i k m hw) (.ex _) rfl
  ·rename_i hu
   cases h
   obtain ⟨b,rfl,_⟩:=DataW.trod_bool hu ht
   exact .one (.b b) (.ex _) rfl
  ·rename_i hu
   cases h
   obtain ⟨⟨a⟩,rfl,_,hs⟩:=DataW.trod_string hu ht
   exact .one (.s a.toList (by simpa [ByteArray.size] using hs)) (.ex _) rfl
  ·rename_i e hu
   split at h
   ·rename_i r hr
    split at h
    ·rename_i hc
     cases h
     rw[Bool.and_eq_true] at hc
     obtain ⟨VH,VI⟩:=And.intro (Nat.eq_of_beq_eq_true hc.1) (gj hc.2)
     rcases open_slice hu ht with ⟨rfl,_⟩|⟨a,len,cap,m,n',D0,Pl,rfl,hb,hl,hm,T5,hx,hi⟩
     ·exact .one (.sl r [] (Nat.zero_le _) (λ_ h=>by cases h) (λ_ h=>by cases h)) (.nil _ _) rfl
     ·simp only[if_true] at T5
      subst T5
      obtain ⟨F,hF⟩:=choose_lt (n:=m) (p:=λi (ds:O D)=>ds.length=r.length/\∀ (j:Nat) sh d,r[j]?=some sh->ds[j]?=some d->∃ c,w.cell? (a.add (i*r.length+j))=some c/\fJ sh d/\cT bl w d c/\c.oneCell'=true) (λi hi'=>by
       obtain ⟨zP,h1,h2⟩:=hi i hi'
       obtain ⟨ds,k1,k2,k3⟩:=sW tR n e r hr n' zP _ h2
       obtain ⟨_,h3,h4⟩:=World.cells?_some h1
       refine ⟨ds,k1,λj sh d hj hd=>?_⟩
       have AD:j<r.length:=(List.getElem?_eq_some_iff.1 hj).1
       have kn:zP[j]?=some (zP[j]'(by omega)):=List.getElem?_eq_getElem (by omega)
       refine ⟨zP[j]'(by omega),?_,k3 j sh d _ hj hd kn⟩
       rw[←kn,←h4 j (by omega),←VH,Go.Deep.add_add])
      have MM:fJ (.sl r) (.sl r.length ((List.range len).map F)):=by
       refine .sl r _ (by simp;omega) (λrow vL=>?_) λrow vL i sh d hs hd=>?_
       ·obtain ⟨i,Ou,rfl⟩:=List.mem_map.1 vL
        exact (hF i (by have:=List.mem_range.1 Ou;omega)).1
       ·obtain ⟨i',Ou,rfl⟩:=List.mem_map.1 vL
        obtain ⟨c,_,hh,_⟩:=(hF i' (by have:=List.mem_range.1 Ou;omega)).2 i sh d hs hd
        exact hh
      refine .one MM ?_ rfl
      rcases Nat.eq_zero_or_pos m with h0|h0
      ·subst h0
       have:len=0:=by omega
       subst this
       exact .nil _ _
      ·have Pj:a.spot=none:=by
        obtain ⟨zP,h1,h2⟩:=hi 0 h0
        obtain ⟨_,h3,h4⟩:=World.cells?_some h1
        have h5:=h4 0 (by omega)
        have h6:zP[0]?=some (zP[0]'(by omega)):=List.getElem?_eq_getElem (by omega)
        rw[h6] at h5
        unfold World.cell? at h5
        split at h5
        ·split at h5
         ·cases h5
         ·rename_i RM
          simpa [Addr.add] using RM
        ·cases h5
       obtain ⟨b,off,sp⟩:=a
       simp only at Pj
       subst Pj
       have cX:∀ i j,i<m->j<r.length->∀ sh d,r[j]?=some sh->(F i)[j]?=some d->∃ c,w.cell? ⟨b,off+(i*r.length+j),none⟩=some c/\fJ sh d/\cT bl w d c/\c.oneCell'=true:=λi j hi' hj sh d hs hd=>by
        obtain ⟨c,h1,h2⟩:=(hF i hi').2 j sh d hs hd
        rw[Addr.add_lit] at h1
        exact ⟨c,h1,h2⟩
       have hlen:((List.range len).map F).length=len:=by simp
       have key:=cT.sl (bl:=bl) (w:=w) r.length ((List.range len).map F) b off m (by rw[hlen];exact hl) (λrow vL=>by
        obtain ⟨i,Ou,rfl⟩:=List.mem_map.1 vL
        exact (hF i (by have:=List.mem_range.1 Ou;omega)).1) (λk hk=>by
        rw[hlen] at hk
        have hdiv:k / r.length<len:=Nat.div_lt_of_lt_mul (by rw[Nat.mul_comm];exact hk)
        have tT:k % r.length<r.length:=Nat.mod_lt _ VI
        obtain ⟨c,h1,h2,h3,h4⟩:=cX (k / r.length) (k % r.length) (by omega) tT _ _ (List.getElem?_eq_getElem tT) (List.getElem?_eq_getElem (by rw[(hF _ (by omega)).1];exact tT))
        have e:k / r.length*r.length+k % r.length=k:=by rw[Nat.mul_comm];exact Nat.div_add_mod k r.length
        rw[e] at h1
        exact ⟨tR _ _ _ h1,c,h1,h4⟩) (λi j row c u h1 h2 h3=>by
        rw[List.getElem?_map] at h1
        obtain ⟨i',Ou,rfl⟩:=Option.map_eq_some_iff.1 h1
        have lA:i<len:=by have:=(List.getElem?_eq_some_iff.1 Ou).1;simpa using this
        have:i'=i:=by rw[List.getElem?_range lA] at Ou;cases Ou;rfl
        subst this
        have AD:j<r.length:=by have:=(List.getElem?_eq_some_iff.1 h2).1;rw[(hF _ (by omega)).1] at this;exact this
        obtain ⟨c',k1,k2,k3,k4⟩:=cX i' j (by omega) AD _ _ (List.getElem?_eq_getElem AD) h2
        rw[h3] at k1
        cases k1
        exact k3)
       rw[hlen] at key
       exact key
    ·cases h
   ·cases h
  ·rename_i fs hu
   split at h
   ·rename_i r hr
    split at h
    ·rename_i hc
     cases h
     have kn:=Nat.eq_of_beq_eq_true hc
     obtain ⟨ys,n',_,hy,hlen,YB,hf⟩:=DataW.trod_struct hu ht
     have:=vI (bl:=bl) (w:=w) (P:=P) cs fs.toList 0 _ hr (by omega) λi f hi r' X5 MG=>by
      have h1:=hf i f (by simpa using hi)
      have X6:ys[i]?=some (ys[i]'(by have:=(List.getElem?_eq_some_iff.1 hi).1;simp at this;omega)):=List.getElem?_eq_getElem _
      exact sW tR n f.type r' X5 n' _ _ (h1.trans X6)
     simpa using this
    ·cases h
   ·cases h
  ·cases h
end opening
end Go.Abs
namespace Go.Abs
open Go.RowKit Go.ChangeShapes Go.WideShapes Go.Deep Go.ChangeAt
def Mp (w:uC) (b:Nat):Nat:=match w.heap[b]? with
 | some (.cells c _ _)=>c.size
 | _=>0
theorem Ov (w:uC) (b off:Nat) (u:uB) (h:w.cell? ⟨b,off,none⟩=some u):off<Mp w b:=by
 unfold World.cell? at h
 unfold Mp
 split at h
 ·rename_i c e k hb
  simp only at hb
  rw[hb]
  simp only[Option.isSome_none,Bool.false_eq_true,if_false] at h
  exact (Array.getElem?_eq_some_iff.1 h).1
 ·cases h
theorem qD.top {bl:Nat->Nat} {w:uC} {sh:Sh} {c:uB} (h:qD bl w [sh] [c]):∃ d,fJ sh d/\cT bl w d c:=by
 obtain ⟨ds,h1,_,h3⟩:=h
 match ds,h1 with
 | [d],_=>exact ⟨d,(h3 0 sh d c rfl rfl rfl).1,(h3 0 sh d c rfl rfl rfl).2.1⟩
section top
variable {H:Type} {enc:uE×uB->H} {P:uG} {w:uC} {held:Bool} {r:Reach} {b0:Nat} {t:uE} {v:uB} {d:DataW H} {ps:O MemPlace}
theorem Bt {n:Nat} {e:uE} {row:O Sh} (hs:shape P n t=some [.sl row]) (ht:P.underlying t=some (.slice e)) (hv:Value.okWide P w r b0 t v) (h:DataW.Trod enc P w 0 (λ_=>true) held t v d ps):∃ x,fJ (.sl row) x/\cT (Mp w) w x v:=by
 obtain ⟨a,l,c,rfl⟩:=okWide_slice ht hv
 obtain ⟨fuel,hf⟩:=h
 exact (sW (Ov w) n t _ hs fuel _ _ hf).top
theorem Ow (ht:P.underlying t=some (.int .i64)) (hv:Value.okWide P w r b0 t v) (h:DataW.Trod enc P w 0 (λ_=>true) held t v d ps):∃ m:Int,cT (Mp w) w (.ex (.int .i64 m)) v/\-9223372036854775808<=m/\m<=9223372036854775807:=by
 obtain ⟨m,rfl⟩:=okWide_int ht hv
 obtain ⟨fuel,hf⟩:=h
 obtain ⟨m',h1,_,hw⟩:=DataW.trod_int ht hf
 have:m'=m:=by simpa [Value.cells] using h1.symm
 subst this
 refine ⟨m',.ex _,?_⟩
 simp only[Lit.wf,Bool.and_eq_true,decide_eq_true_eq] at hw
 exact hw
end top
theorem H4 {α:Type} {row:α->O D} {p:α->Prop}:∀ {rows:O (O D)},(∀ r,r∈rows->∃ x,p x/\r=row x)->∃ l:O α,rows=l.map row/\∀ x,x∈l->p x
 | [],_=>⟨[],rfl,λx h=>by cases h⟩
 | r::rows,h=>by
  obtain ⟨x,hx,rfl⟩:=h r List.mem_cons_self
  obtain ⟨l,rfl,hl⟩:=H4 (rows:=rows) (row:=row) (p:=p) λr' hr=>h r' (List.mem_cons_of_mem _ hr)
  exact ⟨x::l,rfl,λy hy=>by rcases List.mem_cons.1 hy with rfl|hy;exact hx;exact hl y hy⟩
theorem fJ.Rm {row:O Sh} {d:D} (h:fJ (.sl row) d):∃ rows,d=.sl row.length rows/\rows.length<=maxLen/\∀ r,r∈rows->r.length=row.length/\∀ (i:Nat) sh d,row[i]?=some sh->r[i]?=some d->fJ sh d:=by
 cases h with
 | sl _ rows hn h1 h=>exact ⟨rows,rfl,hn,λr hr=>⟨h1 r hr,h r hr⟩⟩
theorem fJ.Fk {d:D} (h:fJ (.i .i64) d):∃ n:Int,d=.ex (.int .i64 n)/\-9223372036854775808<=n/\n<=9223372036854775807:=by
 cases h with
 | i _ n hw=>simp only[Lit.wf,Bool.and_eq_true,decide_eq_true_eq] at hw;exact ⟨n,rfl,hw⟩
section
variable {H:Type} {enc:uE×uB->H} {P:uG}
theorem Ay {f:Func} {s:ChangeSpec} {apart fresh handsOn again:Bool} {W W':uC} {args:uD uB} {v:uB} {ds gs:O (DataW H)} {before pa pv:O MemPlace}
  (hW:DataW.Whole enc P f.params.toList s.vars apart W args.toList ds gs before)
  (TW:∀ (b:Nat) (sp:Nat->Bool) (hd:Bool),DataW.TrodAll enc P W' b sp hd f.resultTypes.toList (v.resultList f.resultTypes.size) (s.fn H (ds++gs)).results [])
  (Mq:∀ sp:Nat->Bool,(∀ p∈before,sp p.block=true)->DataW.TrodAll enc P W' 0 sp true f.params.toList args.toList (s.fn H (ds++gs)).args pa)
  (Pk:∀ sp:Nat->Bool,(∀ p∈before,sp p.block=true)->DataW.TrodVars enc P W' sp s.vars (s.fn H (ds++gs)).vars pv)
  (Ur:before=pa++pv) (hb:Below W.heap.size W W')
  (vJ:∀ (j:Nat) (t:uE) (r:uB),f.resultTypes[j]?=some t->(v.resultList f.resultTypes.size)[j]?=some r->Value.okWide P W' .any 0 t r) :
  s.post enc P f apart fresh handsOn again W args v W':=by
 have cd:∀ p∈before,p.block<W.heap.size:=λp hp=>hW.lt p hp
 have hold:∀ p∈before,(λb=>decide (b<W.heap.size)) p.block=true:=λp hp=>by simpa using cd p hp
 refine ⟨ds,gs,before,[],pa,pv,hW,TW _ _ _,Mq _ hold,Pk _ hold,World.keptBut_mono (λp hp=>⟨hp,?_⟩) (hb.frame (·∈before)),λ_=>?_⟩
 ·rw[Ur,List.mem_append] at hp
  exact Or.inr hp
 ·obtain ⟨_,_,_,_,_,hz,hn⟩:=hW
  refine ⟨vJ,_,_,([]++pa)++pv,⟨[]++pa,pv,trodAll_append (Mq _ (λ_ _=>rfl)) (TW _ _ _),Pk _ (λ_ _=>rfl),rfl,?_,?_⟩,?_⟩
  ·intro b off hp
   have Fm:MemPlace.cell b off∈before:=by rw[Ur];simpa using hp
   rw[hb.frozen (cd _ Fm)]
   exact hz b off Fm
  ·intro ha
   have:=hn ha
   rw[Ur] at this
   simpa using this
  ·intro p hp _
   rw[Ur]
   simpa using hp
end
theorem tO {H:Type} {enc:uE×uB->H} {P:uG} (hl:laidOutB P=true) {W W':uC} (hb:Below W.heap.size W W') (sp:Nat->Bool):∀ {ts:O uE} {vs:O uB} {ds:O (DataW H)} {ps:O MemPlace},
  (ts.all λt=>P.readableRec t && decide (t<P.types.size))=true->DataW.TrodAll enc P W 0 (λ_=>true) true ts vs ds ps->(∀ x∈ps,x.block<W.heap.size)->(∀ x∈ps,sp x.block=true)->DataW.TrodAll enc P W' 0 sp true ts vs ds ps
 | [],[],[],_,_,h,_,_=>h
 | t::ts,v::vs,d::ds,ps,hr,h,cd,RM=>by
  obtain ⟨p,q,h1,h2,rfl⟩:=h
  simp only[List.all_cons,Bool.and_eq_true,decide_eq_true_eq] at hr
  refine ⟨p,q,?_,?_,rfl⟩
  ·exact WideElems.Trod_stays hl hr.1.1 hr.1.2 h1 (λx hx=>hb.same (cd x (List.mem_append_left _ hx))) (λx hx=>RM x (List.mem_append_left _ hx))
  ·exact tO hl hb sp (by simpa using hr.2) h2 (λx hx=>cd x (List.mem_append_right _ hx)) (λx hx=>RM x (List.mem_append_right _ hx))
theorem fJ.Mr {d:D} (h:fJ .s d):∃ l:O uA,d=.ex (.string ⟨l.toArray⟩)/\l.length<=maxLen:=by cases h with|s l h=>exact ⟨l,rfl,h⟩
theorem Ms {α:Type} {row:α->O D} {p:α->Prop} {rows:O (O D)} (h:∀ r,r∈rows->∃ x,r=row x/\p x):∃ l:O α,rows=l.map row/\∀ x,x∈l->p x :=
 H4 λr hr=>let ⟨x,h1,h2⟩:=h r hr;⟨x,h2,h1⟩
theorem fJ.Mt {sh:O Sh} {d:D} {α:Type} {row:α->O D} {p:α->Prop} (h:fJ (.sl sh) d)
  (hr:∀ r:O D,r.length=sh.length->(∀ (i:Nat) h d,sh[i]?=some h->r[i]?=some d->fJ h d)->∃ x,r=row x/\p x) :
  ∃ l:O α,d=.sl sh.length (l.map row)/\l.length<=maxLen/\∀ z,z∈l->p z:=by
 obtain ⟨rows,rfl,hn,h2⟩:=h.Rm
 obtain ⟨l,rfl,hl⟩:=Ms (row:=row) (p:=p) λr WO=>hr r (h2 r WO).1 (h2 r WO).2
 exact ⟨l,rfl,by simpa using hn,hl⟩
theorem VZ (r:List D) (h1:r.length=1) (h2:∀ (i:Nat) sh d,([.i .u8]:List Sh)[i]?=some sh->r[i]?=some d->fJ sh d):∃ x:uA,r=cq x/\True:=by
 match r,h1 with
 | [d],_ =>
  have h:=h2 0 _ d rfl rfl
  cases h with
  | i _ n hw =>
   simp[Lit.wf,IntKind.min,IntKind.max,IntKind.signed,IntKind.bits] at hw
   refine ⟨UInt8.ofNat n.toNat,?_,trivial⟩
   have:((UInt8.ofNat n.toNat).toNat:Int)=n:=by simp[UInt8.toNat_ofNat'];omega
   unfold cq
   rw[this]
end Go.Abs
