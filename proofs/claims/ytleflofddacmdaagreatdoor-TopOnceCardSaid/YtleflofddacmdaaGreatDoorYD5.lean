/- Our own texts of this seat. -/
import Derived.Test.YtleflofddacmdaaGreatDoorYD4
import Derived.Lib.Split
import Derived.Lib.Join
import Derived.Lib.ItoaNum
import Derived.Lib.ItoaLen
import Derived.Deep.Slices
import Derived.ChangeArms
import Derived.ProofKit
import Derived.Below
import Derived.ChangeSame
set_option linter.all false
set_option maxRecDepth 100000
set_option maxHeartbeats 4000000
namespace Go.Proofs.YtleflofddacmdaaGreatDoor
open Go.RowKit Go.Abs
def ZU(x:LQ uA)(L:LQ Sub):= L.find? λs=>decide (x∈s.numbers)
def Bc id(x):∀(h:LQ (LQ uA)) (o:LQ (LQ uA×Int)),ak (h.foldl (λo n=>cQ o n id) o) x=if x∈h then some id else ak o x
 | [],o=>by simp
 | a::h,o=>by
  rw[zfg,Bc id x h,eC]
  grind
theorem OX(x):∀L o,(∀s H,s∈L->H∈L->x∈s.numbers->x∈H.numbers->s.id=H.id)->ak (owF L o) x=match ZU x L with|some s=>some s.id|none=>ak o x
 | [],o,_=>rfl
 | s::l,o,h=>by
  have i:=OX x l (s.numbers.foldl (λo n=>cQ o n s.id) o) λa b ha d=>h a b (zak _ ha) (zak _ d)
  unfold owF;rw[i];unfold ZU;rw[List.find?_cons];by_cases hx:x∈s.numbers
  .rw[show decide (x∈s.numbers)=true from by simp_all];simp only;cases c:l.find? λs=>decide (x∈s.numbers)with
   | none=>simp only[Bc,hx,zce]
   | some H =>
    have h1:=List.mem_of_find?_eq_some c;have h2:=List.find?_some c
    grind
  .rw[show decide (x∈s.numbers)=false from by simp_all];simp only;cases c:l.find? λs=>decide (x∈s.numbers)with
   | none=>simp only[Bc,hx,zbq]
   | some H=>rfl
def OY:∀L,(L.map (·.id)).Nodup->∀s,s∈L->OS s.id L=(s,true)
 | [],_,s,h=>by simp at h
 | a::l,hn,s,h=>by
  rw[zbb,zbz]at hn;unfold OS;rcases zao.1 h with rfl|h
  .rw[zab rfl]
  .rw[zaa (λq=>hn.1 (by rw[q];grind))];exact OY l hn.2 s h
section state
variable {n:Nat}{w:W7}{b:Bk}
theorem yY.own(h:yY n w b)(x):Ms (pj w) x=match ZU x (pj w)with|some s=>(s,true)|none=>(Ab,false):=by
 unfold Ms;rw[OX x _ _ λs H hs v=>h.num s H x (h.Iq hs).1 (h.Iq v).1];cases a:ZU x (pj w)with
 | none=>simp[ak]
 | some s =>
  simp only;exact OY _ h.liveN s (List.mem_of_find?_eq_some a)
end state
def few_run bZ t(hl:bZ.length<=40)(hv:VC b0 0 bZ):∃w b,OQ t bZ w0=some w/\upB t bZ b0=some b/\yY bZ.length w b:=by
 obtain⟨w,b,h1,h2,h3⟩:=TY t bZ 0 w0 b0 0 inv0 (by omega) hv;rw[zbh]at h3;simp_all
def VA r(h:cL r=0)(p:r.part=0):r.call=0/\r.last=false:=by
 unfold cL at h
 grind
def ZV{α}[Inhabited α]{l}{R:α->α->Prop}:(∀k,k<l.length->∀j,j<k->R (nth l j) (nth l k))↔l.Pairwise R:=by
 rw[List.pairwise_iff_getElem];constructor
 .intro h i j hi H a;have:=h j H i a
  rwa [cV hi,cV H]at this
 .intro h k hk j H;have:=h j k (by omega) hk H
  rwa [cV hk,cV (by omega)]
def ou:List Range->Int
 | []=>0
 | r::l=>r.uW-r.from_+1+ou l
def te:List Head->Int
 | []=>0
 | h::l=>h.count+te l
def Mv:∀{l},(∀r,r∈l->zB r)->0<=ou l/\ou l<=l.length*1000000000
 | [],_=>by simp[ou]
 | r::l,h=>by
  have h1:=h r (zal ..);have h2:=Mv λx hx=>h x (zak _ hx)
  unfold zB at h1;rw[ou,zap];omega
def T0:∀{l},(∀r,r∈l->Vo r)->0<=te l/\te l<=l.length*5000
 | [],_=>by simp[te]
 | r::l,h=>by
  have h1:=h r (zal ..);have h2:=T0 λx hx=>h x (zak _ hx)
  unfold Vo at h1;rw[te,zap];omega
def p_Count l(h:∀r,r∈l->zB r)(hl:l.length<=1000000):qm l=some (ou l):=by
 unfold qm;have:=bG (step:=λs:Int×Int=>ma l s.1 s.2) l (λs=>s.2) (λs t=>some (s.1+ou t)) (λs t=>(0<=s.1/\s.1+t.length*1000000000<=1000000*1000000000)/\∀r,r∈t->zB r) (by omega) ?_ ?_ (s:=(0,0)) rfl ⟨by omega,h⟩
 .rw[this];simp
 .rintro⟨n,i⟩ ⟨h1,_⟩ h2;simp only at h1 h2;refine⟨n,?_,by simp[ou]⟩;unfold ma;rw[zaa (by simp_all)]
 .rintro⟨n,i⟩ r t ⟨h1,h2⟩ h3 h4 H a;simp only at h1 h3 h4 H a;have b:=h2 r (zal ..);rw[zap]at h1;unfold zB at b;unfold ma;rw[zab (by simp_all),ae ⟨h3,h4⟩,H,ae ⟨by omega,by omega⟩,ae ⟨by omega,by omega⟩,ae ⟨by omega,by omega⟩,ae ⟨by omega,by omega⟩];refine .inr ⟨(n+(r.uW-r.from_+1),i+1),rfl,⟨by omega,λx hx=>h2 x (zak _ hx)⟩,rfl,?_⟩;simp only[ou];rw[Int.add_assoc]
def pU(m:aM):lR:=⟨te m.aw.aZ,m.usages.length,ou m.aw.seen-m.usages.length-m.bc.length-m.aw.open_.length,m.cX.length,m.bc.length,m.aw.open_.length⟩
structure Bal(m:aM):Prop where
 seen:∀r,r∈m.aw.seen->zB r
 aZ:∀h,h∈m.aw.aZ->Vo h
 l1:m.aw.seen.length<=1000000
 l2:m.aw.aZ.length<=1000000
 l3:m.aw.open_.length<=1000000
 l4:m.usages.length<=1000000
 l5:m.bc.length<=1000000
 l6:m.cX.length<=1000000
def VB m(h:Bal m):iZ m=some (pU m):=by
 have b1:=Mv h.seen;have:=h.l1;have:=h.l2;have:=h.l3;have:=h.l4;have:=h.l5;unfold iZ;have:=bG (step:=λs:Int×Int=>gx m s.1 s.2) m.aw.aZ (λs=>s.1) (λs t=>some (⟨s.2+te t,(m.usages.length:Int),((ou m.aw.seen-(m.usages.length:Int)) - (m.bc.length:Int)) - (m.aw.open_.length:Int),(m.cX.length:Int),(m.bc.length:Int),(m.aw.open_.length:Int)⟩:lR))
  (λs t=>(0<=s.2/\s.2+t.length*5000<=1000000*5000)/\∀r,r∈t->Vo r) (by omega) ?_ ?_ (s:=(0,0)) rfl ⟨by omega,h.aZ⟩
 .rw[this];simp[pU]
 .rintro⟨i,n⟩ ⟨h1,_⟩ h2;simp only at h1 h2;refine⟨_,?_,rfl⟩;unfold gx;rw[zaa (by simp_all)];unfold j0;rw[p_Count _ h.seen h.l1,zac,ae ⟨by omega,by omega⟩,ae ⟨by omega,by omega⟩,ae ⟨by omega,by omega⟩];simp[te]
 .rintro⟨i,n⟩ r t ⟨h1,h2⟩ h3 h4 H a;simp only at h1 h3 h4 H a;have b:=h2 r (zal ..);rw[zap]at h1;unfold Vo at b;unfold gx;rw[zab (by simp_all),ae ⟨h3,h4⟩,H,ae ⟨by omega,by omega⟩,ae ⟨by omega,by omega⟩];refine .inr ⟨(i+1,n+r.count),rfl,⟨by omega,λx hx=>h2 x (zak _ hx)⟩,rfl,?_⟩;simp only[te];rw[Int.add_assoc]
def yx(u:bC):aa:=⟨u.source,u.aJ,u.kind,u.a,u.b,u.start,u.aX,0,0,false,u.cN,u.bz⟩
def tc(m:aM):= m.usages.map yx++m.bc++m.aw.open_
def UsgOk(m:aM)(k:Nat):= (nth m.usages k).id=k+1/\(1<=(nth m.usages k).ah/\(nth m.usages k).ah<=9999)/\1<=(nth m.usages k).sub/\(nth m.usages k).sub<=9999
def ZW(b:lR):= 0<=b.merged/\b.read=b.accepted+b.merged+b.rejected+b.br+b.open_
structure mE(m:aM):Prop where
 aw:yu m.aw
 usg:∀k,k<m.usages.length->UsgOk m k
 susp:∀r,r∈m.bc->r.part=0
 rej:∀x,x∈m.cX->x.err=15∨x.err=13
 valid:∀r,r∈tc m->cL r=0
 seen:∀r,r∈tc m->(hasB m.aw.seen r.source r.aJ && Zu r.source r.aJ)=true
 uniq:(tc m).Pairwise NS
 bal:ZW (pU m)
structure ZX(m:aM):Prop where
 aw:SmI m.aw
 l1:m.usages.length<=100000
 l2:m.bc.length<=100000
 l3:m.cX.length<=100000
 u:∀u,u∈m.usages->Sm (yx u)
 s:∀r,r∈m.bc->Sm r
def ZX.bal{m}(h:ZX m)(g:yu m.aw):Bal m:=⟨g.can.ok,λx hx=>Mg g.aZ x hx,by have:=h.aw.seen;omega,by have:=h.aw.aZ;omega,by have:=h.aw.opens;omega,by have:=h.l1;omega,by have:=h.l2;omega,by have:=h.l3;omega⟩
def Mw{m}(h:Bal m):(0<=(pU m).read/\(pU m).read<=100000000000)/\(-10000000<=(pU m).merged/\(pU m).merged<=1000000000000000)/\(pU m).accepted=m.usages.length/\(pU m).rejected=m.cX.length/\(pU m).br=m.bc.length/\(pU m).open_=m.aw.open_.length:=by
 have b1:=Mv h.seen;have b2:=T0 h.aZ;have:=h.l1;have:=h.l2;have:=h.l3;have:=h.l4;have:=h.l5;have:=h.l6;unfold pU
 grind
def ky(r:aa):= (r.source,r.aJ)
def ZY{l:LQ aa}:l.Pairwise NS↔(l.map ky).Nodup:=by
 rw[List.Nodup,List.pairwise_map];constructor
 .intro h;exact h.imp fun {a b} q e=>q (by unfold ky at e;grind)
 .intro h;exact h.imp fun {a b} q e=>q (by unfold ky;rw[e.1,e.2])
def qE{α:Type}(a b:LQ α):= ∃z,(a++z).Perm b
def qE.refl{α}(a:LQ α):qE a a:=⟨[],by simp⟩
def qE.of{α}{a b:LQ α}(h:a.Perm b):qE a b:=⟨[],by grind⟩
def qE.trans{α}{a b c:LQ α}:qE a b->qE b c->qE a c:=λ⟨z,h⟩ ⟨y,k⟩=>⟨z++y,by
 rw[←zas];exact(h.append_right y).trans k⟩
def qE.append{α}{a b c d:LQ α}:qE a b->qE c d->qE (a++c) (b++d):=λ⟨z,h⟩ ⟨y,k⟩=>⟨z++y,by
 refine List.Perm.trans ?_ (h.append k);rw[zas,zas];refine List.Perm.append_left a ?_;rw[←zas,←zas];exact List.perm_append_comm.append_right y⟩
def qE.nodup{α}{a b:LQ α}:qE a b->b.Nodup->a.Nodup:=λ⟨z,h⟩ k=>(zdi.1 (h.nodup_iff.2 k)).1
def qE.mem{α a b}{x:α}:qE a b->x∈a->x∈b:=λ⟨z,h⟩ k=>h.mem_iff.1 (List.mem_append_left _ k)
def Whl(w:aa):= cL w=0/\w.part=0
def ZZ{l w}(h:yt l=some w):Whl w/\∃q t,l=q::t/\ky w=ky q:=by
 cases l with
 | nil=>simp[yt]at h
 | cons q t =>
  rw[show yt (q::t)=(if((q::t).all λp=>decide (p.part≠0/\cL p=0/\Comm p q))=true/\cL (Tt q (CM (q::t)))=0 then some (Tt q (CM (q::t)))else none)from rfl]at h;split at h
  .rename_i H;cases h;exact⟨⟨H.2,rfl⟩,q,t,rfl,rfl⟩
  .cases h
def Z0{l w}(h:pR l=some w):Whl w/\∃q t,l=q::t/\ky w=ky q:=by
 unfold pR at h;split at h
 .exact ZZ h
 .cases h
def Kk(x):∀m n,(∀w,w∈(fU m n x).1->Whl w)/\qE (((fU m n x).1++(fU m n x).2).map ky) (n.map ky)
 | 0,n=>⟨λw h=>by simp[fU]at h,.refl _⟩
 | m+1,n=>by
  unfold fU;cases a:pR (oq true x 1 n).1 with
  | none=>exact⟨λw h=>by simp at h,.refl _⟩
  | some w =>
   obtain⟨b,i⟩:=Kk x m (oq true x 1 n).2;obtain⟨hw,q,t,e,c⟩:=Z0 a;refine⟨λy hy=>?_,?_⟩
   .grind
   .have H:=(yr true x 1 n).map ky;rw[zcd]at H;refine qE.trans ?_ (.of H);simp only[List.cons_append,zbb];have:qE [ky w] ((oq true x 1 n).1.map ky):=by rw[e,zbb,c];exact⟨t.map ky,.refl _⟩
    exact this.append i
def VD now r(H:cL r=0):(∀w,w∈(jt now r).1->Whl w)/\qE (((jt now r).1++(jt now r).2).map ky) ((r::now).map ky):=by
 unfold jt;split
 .rename_i h0;exact⟨λw h=>by rw[zcg.1 h];exact⟨H,h0⟩,.refl _⟩
 .obtain⟨h1,h2⟩:=Kk r (now.length+2) (oW now r);exact⟨h1,h2.trans (.of ((vj now r).map ky))⟩
def Et:∀(l now),(∀r,r∈l->cL r=0)->(∀w,w∈(fu now l).1->Whl w)/\qE (((fu now l).1++(fu now l).2).map ky) ((now++l).map ky)
 | [],now,_=>⟨λw h=>by simp[fu]at h,by simpa[fu] using qE.refl _⟩
 | r::l,now,h=>by
  obtain⟨b,a⟩:=VD now r (h r (zal ..));obtain⟨b1,b2⟩:=Et l (jt now r).2 λz H=>h z (zak _ H)
  unfold fu;refine⟨λw c=>?_,?_⟩
  .grind
  .simp only;rw[zas,zcd];refine((qE.refl ((jt now r).1.map ky)).append b2).trans ?_;rw[zcd,←zas,←zcd];refine(a.append (qE.refl (l.map ky))).trans (.of ?_);rw[←zcd]
   grind
def uF(bZ:LQ Event)(r:aa)(id:Int):= Rr (pj ((OQ r.start bZ w0).getD w0)) r id
def p_uF bZ r id(hl:bZ.length<=5000)(hs:Sm r):jr bZ r id=some (uF bZ r id):=by
 obtain⟨w,h1,h2⟩:=ZP bZ r id hl hs;unfold uF;rw[h1];exact h2
def F0(bZ:List Event):List aa->List bC->List aa->List bC×List aa
 | [],us,ws=>(us,ws)
 | r::l,us,ws=>if(uF bZ r (us.length+1)).2=0 then F0 bZ l (us++[(uF bZ r (us.length+1)).1]) ws else F0 bZ l us (ws++[r])
def p_pl bZ(hl:bZ.length<=5000) l us ws(hs:∀r,r∈l->Sm r)(h1:l.length<=1000000)(h2:us.length<=1000000)(h3:ws.length<=1000000) a b c d:
  fO l a b c bZ us ws d=some (F0 bZ l us ws):=by
 .unfold fO;refine bG (step:=λs:LQ bC×LQ aa×Int=>eS l bZ s.1 s.2.1 s.2.2) l (λs=>s.2.2) (λs t=>some (F0 bZ t s.1 s.2.1)) (λs t=>(s.1.length+t.length<=2000000/\s.2.1.length+t.length<=2000000)/\∀r,r∈t->Sm r) (by omega) ?_ ?_ (s:=(us,ws,0)) rfl ⟨⟨by grind,by grind⟩,hs⟩
  .rintro⟨u,w,i⟩ _ h4;simp only at h4;refine⟨_,?_,rfl⟩;unfold eS;rw[zaa (by simp_all)];rfl
  .rintro⟨u,w,i⟩ r t ⟨⟨h4,f⟩,h⟩ g j k H;simp only at h4 f g j k H;rw[zap]at h4 f;unfold eS;simp only;rw[zab (by simp_all),ae ⟨g,j⟩,ae ⟨by omega,by omega⟩,k,p_uF bZ r _ hl (h r (zal ..)),zac];by_cases m:(uF bZ r ((u.length:Int)+1)).2=0
   .rw[zab (by simp_all),ae (by grind),ae ⟨by omega,by omega⟩];refine .inr ⟨(u++[(uF bZ r ((u.length:Int)+1)).1],w,i+1),rfl,⟨⟨by grind,by grind⟩,λz e=>h z (zak _ e)⟩,rfl,?_⟩;simp only;rw[F0,zab m]
   .rw[zaa (by simp_all),ae (by grind),ae ⟨by omega,by omega⟩];refine .inr ⟨(u,w++[r],i+1),rfl,⟨⟨by grind,by grind⟩,λz e=>h z (zak _ e)⟩,rfl,?_⟩;simp only;rw[F0,zaa m]
def F1(bZ):∀l us w,(F0 bZ l us w).1.length+(F0 bZ l us w).2.length=us.length+w.length+l.length
 | [],us,w=>by simp[F0]
 | r::l,us,w=>by
  unfold F0;split
  .rw[F1 bZ l];grind
  .rw[F1 bZ l];grind
def T1 v b w(h:Vq v b):∀r,r∈(lG v b w).2.1->Whl r:=λr H=>by
 unfold lG at H;split at H
 .rename_i a;split at H
  .refine(Et _ _ λx hx=>(FV a).2.2.2.2 x (Mm hx)).1 r H
  grind
 grind
structure Med(m:aM):Prop where
 qY:yu m.aw
 seen:m.aw.seen.length<=60000
 aZ:m.aw.aZ.length<=60000
 opens:m.aw.open_.length<=60000
 l1:m.usages.length<=300000
 l2:m.bc.length<=300000
 l3:m.cX.length<=300000
 s:∀r,r∈m.bc->Sm r
def Med.smA{m}(h:Med m){b}(h1:b.records.length<=10000)(h2:∀r,r∈b.records->Sm r):Vq m.aw b:=⟨h.qY,h.seen,h.aZ,h.opens,h1,h2⟩
def PE:aM:=⟨ ⟨ [],[],[]⟩,[],[],[]⟩
def pn(bZ:LQ Event)(m:aM)(b:Batch)(w:eD):=
 if(lG m.aw b w).2.2.2=0 then(⟨(lG m.aw b w).1,(F0 bZ (lG m.aw b w).2.1 m.usages m.bc).1,(F0 bZ (lG m.aw b w).2.1 m.usages m.bc).2,m.cX++(lG m.aw b w).2.2.1⟩,0)else(PE,(lG m.aw b w).2.2.2)
def p_open bZ m(h:Med m):l9 bZ m=some (m.aw.seen,m.aw.open_,m.aw.aZ,m.usages,m.cX,bZ,m.bc):=by
 have h1:=h.seen;have h2:=h.aZ;have h3:=h.opens;have h4:=h.l1;have H:=h.l3;unfold l9 il eH od wa ua;rw[ae (by omega),ae (by omega),ae (by omega),ae (by omega),ae (by omega)];simp_all
def Z1 bZ(hl:bZ.length<=5000) m b w(h:Med m)(h1:b.records.length<=10000)(h2:∀r,r∈b.records->Sm r):js bZ m b w=some (pn bZ m b w):=by
 have H:=h.smA h1 h2;have ha:=ZF m.aw b w H;have hw:=T1 m.aw b w H;have k:=h.l1;have k2:=h.l2;have k3:=h.l3;unfold js pn;rw[ZE _ _ _ H,zac];by_cases a:(lG m.aw b w).2.2.2=0
 .rw[zaa (by simp_all),zab a,p_open bZ m h,zac];unfold eH;simp only;rw[ae (by omega),zac,ae (by omega),(p_pl bZ hl _ _ _ (λr c=>FQ (hw r c).1) (by omega) (by omega) (by omega) _ _ _ _),zac]
 .rw[zab (by simp_all),zaa a];rfl
def VE(us:LQ bC):= ∀k,k<us.length->(nth us k).id=k+1/\(1<=(nth us k).ah/\(nth us k).ah<=9999)/\1<=(nth us k).sub/\(nth us k).sub<=9999
def Mx{α}[Inhabited α]{a b:LQ α}{k}(h:k<a.length):nth (a++b) k=nth a k:=by
 rw[cV h,cV (by rw[zar];omega),List.getElem_append_left h]
def OZ{α}[Inhabited α]{a}{x:α}:nth (a++[x]) a.length=x:=by
 rw[cV (by simp)];simp
def VE.snoc{us}(h:VE us){u}(h1:u.id=(us.length:Int)+1)(h2:1<=u.ah/\u.ah<=9999)(h3:1<=u.sub/\u.sub<=9999):VE (us++[u]):=λk hk=>by
 rw[zar,zcm]at hk;by_cases e:k=us.length
 .subst e;rw[OZ];omega
 .rw[Mx (by omega)];exact h k (by omega)
def uF_ok bZ(hl:bZ.length<=40)(hv:VC b0 0 bZ) r id(h:(uF bZ r id).2=0)(hw:Whl r):(uF bZ r id).1.id=id/\(1<=(uF bZ r id).1.ah/\(uF bZ r id).1.ah<=9999)/\(1<=(uF bZ r id).1.sub/\(uF bZ r id).1.sub<=9999)/\yx (uF bZ r id).1=r:=by
 obtain⟨w,b,q1,q2,H⟩:=few_run bZ r.start hl hv;obtain⟨e0,p⟩:=hw;obtain⟨d,l0⟩:=VA r e0 p;unfold uF at h ⊢;rw[q1]at h ⊢;simp at h ⊢;have own:=H.own (pT r);unfold Rr at h;rw[zaa (show ¬(cL r≠0)from λk=>k e0),zaa (show ¬(r.part≠0)from λk=>k p)]at h;cases c:ZU (pT r) (pj w)with
 | none =>
  simp_all
 | some s =>
  have e:=List.mem_of_find?_eq_some c;rw[c]at own;rw[own]at h;have f:¬(s.br=true/\r.bz=false):=λq=>by rw[zab q]at h;simp at h
  have g:Rr (pj w) r id=(⟨id,r.kind,s.ah,s.id,r.a,r.b,r.start,r.aX,r.cN,r.bz,r.source,r.aJ⟩,0):=by
   unfold Rr;simp_all
  rw[g];have hs:=(H.Iq e).1;refine⟨rfl,H.acc s hs,H.rng _ (zen hs),?_⟩;obtain⟨x,i,j,l,m,n,o,t,x9,x10,x11,x12⟩:=r;subst d;subst l0;subst p;rfl
def F2 bZ(hl:bZ.length<=40)(hv:VC b0 0 bZ):∀l us w,(∀r,r∈l->Whl r)->VE us ->
  VE (F0 bZ l us w).1/\((F0 bZ l us w).1.map yx++(F0 bZ l us w).2).Perm (us.map yx++w++l)/\(∃z,(F0 bZ l us w).1=us++z)/\∀r,r∈(F0 bZ l us w).2->r∈w∨r∈l
 | [],us,w,_,hu=>⟨hu,by simp[F0],⟨[],by simp[F0]⟩,λr h=>.inl h⟩
 | r::l,us,w,h,hu=>by
  have H:=h r (zal ..);have ht:=λz a=>h z (zak _ a)
  unfold F0;by_cases b:(uF bZ r ((us.length)+1)).2=0
  .obtain⟨o1,o2,o,f⟩:=uF_ok bZ hl hv r _ b H;obtain⟨i,c,⟨z,d⟩,e⟩:=F2 bZ hl hv l (us++[(uF bZ r ((us.length)+1)).1]) w ht (hu.snoc o1 o2 o)
   grind
  .obtain⟨i,c,⟨z,d⟩,e⟩:=F2 bZ hl hv l us (w++[r]) ht hu
   grind
def O0{s n f l}:ou (rJ s n f l)=ou l+(n-f+1):=by
 cases l with
 | nil=>simp[rJ,ou]
 | cons r l =>
  rw[rJ];by_cases h3:TR s n r
  .rw[zab h3];unfold TR at h3;simp[ou];omega
  .rw[zaa h3];simp[ou];omega
def O1{s n}:∀l,ou (kv s n l)=ou l+1
 | []=>by simp only[kv,ou];omega
 | r::l=>by
  rw[kv];by_cases h:PL s n r
  .rw[zab h,O0];omega
  .rw[zaa h];by_cases h1:TL s n r
   .rw[zab h1,O0];unfold TL at h1;simp[ou];omega
   .rw[zaa h1];simp[ou,O1 l];omega
def Ir(w):∀t l i,ou (dP w l i t).1=ou l+(dP w l i t).2.1.length/\(dP w l i t).2.1.length+(dP w l i t).2.2.length=t.length/\∀x,x∈(dP w l i t).2.2->x.err=15∨x.err=13
 | [],l,i=>by simp[dP]
 | r::t,l,i=>by
  by_cases h:PD w r
  .by_cases H:hasB l r.source r.aJ=false
   .obtain⟨a,b,c⟩:=Ir w t (kv r.source r.aJ l) (i+1);simp[dP,zab h,zab H];rw[a,O1]
    grind
   .obtain⟨a,b,c⟩:=Ir w t l (i+1);simp only[dP,zab h,zaa H,zap];refine⟨a,by omega,λx hx=>?_⟩;rcases zao.1 hx with rfl|hx
    .exact .inr rfl
    simp_all
  .obtain⟨a,b,c⟩:=Ir w t l (i+1);simp only[dP,zaa h,zap];refine⟨a,by omega,λx hx=>?_⟩;rcases zao.1 hx with rfl|hx
   .exact .inl rfl
   simp_all
def Eu(h):∀l,te (l++[h])=te l+h.count
 | []=>by simp[te]
 | x::l=>by
  rw[List.cons_append,te,Eu h l,te];omega
def Ew(m):ZW (pU m)↔m.usages.length+m.bc.length+m.aw.open_.length<=ou m.aw.seen/\te m.aw.aZ=ou m.aw.seen+m.cX.length:=by
 unfold ZW pU
 grind
def Z2 bZ(hl:bZ.length<=40)(hv:VC b0 0 bZ) v l us ws a(g:yu v)(hu:VE us)(i:∀r,r∈ws->r.part=0)(hw:∀r,r∈l->Whl r)(b:∀x,x∈a->x.err=15∨x.err=13)
  (d:∀r,r∈us.map yx++ws->cL r=0) (G:((us.map yx++ws++l++v.open_).map ky).Nodup) (c:∀r,r∈us.map yx++ws++l->hasB v.seen r.source r.aJ=true)
  (k:us.length+ws.length+l.length+v.open_.length<=ou v.seen/\te v.aZ=ou v.seen+a.length):mE ⟨v,(F0 bZ l us ws).1,(F0 bZ l us ws).2,a⟩:=by
 obtain⟨p,m,n,j⟩:=F2 bZ hl hv l us ws hw hu;have e:(tc ⟨v,(F0 bZ l us ws).1,(F0 bZ l us ws).2,a⟩).Perm (us.map yx++ws++l++v.open_):=by
  unfold tc
  grind
 have f:=F1 bZ l us ws;have H:∀r,r∈us.map yx++ws++l++v.open_->cL r=0:=λr h=>by
  rcases zbi.1 h with h|h
  .rcases zbi.1 h with h|h
   .simp_all
   .exact(hw r h).1
  .exact(g.opn.ok r h).1
 refine⟨g,p,λr h=>?_,b,λr h=>H r (e.mem_iff.1 h),λr h=>?_,?_,?_⟩
 .rcases j r h with q|q
  .grind
  .exact(hw r q).2
 .have h1:=e.mem_iff.1 h;have h2:=Mi (H r h1);rw[h2,Bool.and_true];rcases zbi.1 h1 with h1|h1
  .simp_all
  .exact((FW _ _).1 g.ids).1 r h1 |>.1
 .rw[ZY]
  grind
 .rw[Ew]
  grind
def mE.old{m}(g:mE m):(∀r,r∈m.usages.map yx++m.bc->cL r=0)/\∀r,r∈m.usages.map yx++m.bc->hasB m.aw.seen r.source r.aJ=true:=by
 refine⟨λr h=>g.valid r ?_,λr h=>?_⟩
 .unfold tc;grind
 .have:=g.seen r (by unfold tc;grind);simp_all
def Z3{l a b}(h:ky a=ky b):hasB l a.source a.aJ=hasB l b.source b.aJ:=by
 unfold ky at h;simp_all
section run
variable (bZ:LQ Event)(hl:bZ.length<=40)(hv:VC b0 0 bZ)
include hl hv
theorem VF{m}(g:mE m){b w}(d:Vq m.aw b)(he:(lG m.aw b w).2.2.2=0):mE (pn bZ m b w).1:=by
 unfold pn;have c:Er b=0:=by
  unfold lG at he
  grind
 have hn:b.number=qD b.source 1 m.aw.aZ:=by
  unfold lG at he;rw[zab c]at he
  grind
 have ha:lG m.aw b w=CU m.aw b w:=by unfold lG;rw[zab c,zab hn]
 rw[ha];obtain⟨s,k2,k3,k4,k5⟩:=FV c;obtain⟨l,a2,a3,a4,a5⟩:=CV w b.records m.aw.seen 0 d.qY.can k5;obtain⟨s1,s2,s3⟩:=Ir w b.records m.aw.seen 0;have j:=ZI (w:=w) d c hn;generalize hT:dP w m.aw.seen 0 b.records=T at l a2 a3 a4 a5 s1 s2 s3;have i:∀r,r∈T.2.1->cL r=0:=λr h=>k5 r (Mm (by rw[hT];exact h));obtain⟨n,k⟩:=Et T.2.1 m.aw.open_ i;have t:=wH m.aw.open_ T.2.1;have hy:CU m.aw b w=((⟨T.1,(fu m.aw.open_ T.2.1).2,m.aw.aZ++[(⟨b.source,b.number,b.format,(b.records.length:Int)⟩:Head)]⟩:dH),(fu m.aw.open_ T.2.1).1,T.2.2,0):=by
  unfold CU;rw[hT]
 rw[hy]at j ⊢;obtain⟨o1,o2⟩:=g.old;have u:=(Ew m).1 g.bal;have a:=ZY.1 g.uniq;unfold tc at a;have o:((m.usages.map yx++m.bc++(m.aw.open_++T.2.1)).map ky).Nodup:=by
  rw[←zas,zcd,zdi];refine⟨a,ZY.1 a4,λx hx y hy e=>?_⟩;obtain⟨r,h,rfl⟩:=zck.1 hx;obtain⟨q,H,rfl⟩:=zck.1 hy;have h1:=g.seen r h;have h2:=(a3 q H).2;simp only[zam]at h1;rw[Z3 e,h2]at h1;simp_all
 have p:qE ((m.usages.map yx++m.bc++(fu m.aw.open_ T.2.1).1++(fu m.aw.open_ T.2.1).2).map ky) ((m.usages.map yx++m.bc++(m.aw.open_++T.2.1)).map ky):=by
  have:=(qE.refl ((m.usages.map yx++m.bc).map ky)).append k;rw[←zcd,←zcd,←zas]at this;exact this
 refine Z2 bZ hl hv _ _ _ _ _ j g.usg g.susp n (λx hx=>?_) o1 (p.nodup o) (λr h=>?_) ?_
 .rcases zbi.1 hx with hx|hx
  .exact g.rej x hx
  simp_all
 .rcases zbi.1 h with h|h
  .simp_all
  .have hk:=k.mem (zen (f:=ky) (List.mem_append_left _ h));obtain⟨q,H,e⟩:=zck.1 hk;rw[Z3 e.symm];rcases zbi.1 H with H|H
   .exact a2 _ _ (((FW _ _).1 d.qY.ids).1 q H).1
   simp_all
 .simp only;rw[Eu,zar]
  grind
end run
def mE.smAll{m}(g:mE m):∀r,r∈tc m->Sm r:=λr h=>FQ (g.valid r h)
def mE.sm22{m}(g:mE m)(h1:m.aw.seen.length<=100000)(h2:m.aw.aZ.length<=100000)(h3:m.aw.open_.length<=100000)(h4:m.usages.length<=100000)(h:m.bc.length<=100000)(H:m.cX.length<=100000):ZX m:=
 ⟨⟨h1,h2,h3,g.aw.opn.wt.sm⟩,h4,h,H,λu a=>g.smAll _ (by unfold tc;grind),λr b=>g.smAll _ (by unfold tc;simp_all)⟩
def mE.med{m}(g:mE m)(h:ZX m)(h1:m.aw.seen.length<=60000)(h2:m.aw.aZ.length<=60000)(h3:m.aw.open_.length<=60000):Med m:=
 ⟨g.aw,h1,h2,h3,by have:=h.l1;omega,by have:=h.l2;omega,by have:=h.l3;omega,h.s⟩
structure Fact(m n:aM)(k:Nat):Prop where
 us:∃z,n.usages=m.usages++z
 len:n.usages.length+n.bc.length+n.aw.open_.length+n.cX.length<=m.usages.length+m.bc.length+m.aw.open_.length+m.cX.length+k
 read:te n.aw.aZ=te m.aw.aZ+k
 mer:(ou m.aw.seen-(m.usages.length:Int)) - m.bc.length-m.aw.open_.length<=(ou n.aw.seen-(n.usages.length:Int)) - n.bc.length-n.aw.open_.length
 seen:n.aw.seen.length<=m.aw.seen.length+k
 aZ:n.aw.aZ.length=m.aw.aZ.length+1
def T2{v b w}(he:(lG v b w).2.2.2=0):Er b=0/\b.number=qD b.source 1 v.aZ/\lG v b w=CU v b w:=by
 have h:Er b=0:=by
  unfold lG at he
  grind
 have hn:b.number=qD b.source 1 v.aZ:=by
  unfold lG at he;rw[zab h]at he
  grind
 exact⟨h,hn,by unfold lG;rw[zab h,zab hn]⟩
section run
variable (bZ:LQ Event)(hl:bZ.length<=40)(hv:VC b0 0 bZ)
include hl hv
theorem Kl{m}(g:mE m){b w}(H:Vq m.aw b)(he:(lG m.aw b w).2.2.2=0):Fact m (pn bZ m b w).1 b.records.length:=by
 obtain⟨d,hn,ha⟩:=T2 he;obtain⟨s1,s2,s3⟩:=Ir w b.records m.aw.seen 0;obtain⟨_,_,p,_⟩:=F2 bZ hl hv (lG m.aw b w).2.1 m.usages m.bc (T1 m.aw b w H) g.usg;have h:=F1 bZ (lG m.aw b w).2.1 m.usages m.bc;have B:=Mn w m.aw.seen b.records 0;have f:=wH m.aw.open_ (dP w m.aw.seen 0 b.records).2.1;unfold pn;rw[zab he];rw[ha]at p h ⊢;have i:(CU m.aw b w).1.seen=(dP w m.aw.seen 0 b.records).1:=rfl;have j:(CU m.aw b w).1.open_=(fu m.aw.open_ (dP w m.aw.seen 0 b.records).2.1).2:=rfl;have e:(CU m.aw b w).1.aZ=m.aw.aZ++[(⟨b.source,b.number,b.format,(b.records.length:Int)⟩:Head)]:=rfl;have a:(CU m.aw b w).2.1=(fu m.aw.open_ (dP w m.aw.seen 0 b.records).2.1).1:=rfl;have c:(CU m.aw b w).2.2.1=(dP w m.aw.seen 0 b.records).2.2:=rfl;rw[a]at p h ⊢;rw[c];refine⟨p,?_,?_,?_,?_,?_⟩
 .grind
 .simp only;rw[e,Eu]
 .grind
 .simp_all
 simp_all
end run
end Go.Proofs.YtleflofddacmdaaGreatDoor
namespace Go.Proofs.YtleflofddacmdaaGreatDoor.C12
open Go.RowKit Go.Abs
def Ie(s n f:Int):Int:=if(s<1∨99<s)∨n<1∨999999999<n then 6 else if f<1∨3<f then 7 else 0
def Rk(h):eN h=some (if Ie h.source h.number h.format=0 then if h.count<0∨4096<h.count then 5 else 0 else Ie h.source h.number h.format):=by
 unfold eN;simp only[er,zac,vi];by_cases h1:(h.source<1∨99<h.source)∨(h.number<1∨999999999<h.number)
 .have e:Ie h.source h.number h.format=6:=zab h1;rw[e];simp_all
 .by_cases h2:h.format<1∨3<h.format
  .have e:Ie h.source h.number h.format=7:=by unfold Ie;rw[zaa h1,zab h2]
   rw[e];simp_all
  .have e:Ie h.source h.number h.format=0:=by unfold Ie;rw[zaa h1,zaa h2]
   rw[e]
   grind
def vb(u:Int):= if 127<u then UInt8.ofInt (128+u % 128)::vb (u / 128)else[UInt8.ofInt u]
termination_by u.toNat
decreasing_by omega
def Sh200(r:aa):= r.a.length<=200/\r.b.length<=200
instance (r:aa):Decidable (Sh200 r):=by unfold Sh200;infer_instance
def okT(r:aa):= decide (1<=r.kind/\r.kind<=4/\0<=r.aX/\r.aX<=1099511627776)
def O2(u:LQ Int)(r:aa):= if okT r then uU u 5 r.kind.toNat (nth u r.kind.toNat+r.aX)else u
def totT(l:LQ aa):= l.foldl O2 [0,0,0,0,0]
def Z4(r:aa)(k:Nat):= if okT r=true/\r.kind.toNat=k then r.aX else 0
def conT_bd r(k):0<=Z4 r k/\Z4 r k<=1099511627776:=by
 unfold Z4;split
 .rename_i h;have:=h.1;simp only[okT,zcc]at this;omega
 .omega
def O3{u}(h:u.length=5)(r):(O2 u r).length=5:=by
 unfold O2;split
 .exact W5 _ _ _ _
 .exact h
def Z5 u r{k}(hk:k<5):nth (O2 u r) k=nth u k+Z4 r k:=by
 unfold O2 Z4;by_cases h:okT r=true
 .rw[zab h,Nr hk]
  grind
 simp_all
theorem five{u:List Int}(h:u.length=5):[nth u 0,nth u 1,nth u 2,nth u 3,nth u 4]=u:=by
 match u,h with
 | [a,b,c,d,e],_=>rfl
def five_bd{u}{x:Int}(h:∀j,j<5->0<=nth u j/\nth u j<=x){n:Int}(h1:1<=n)(h2:n<=4):0<=nth u n.toNat/\nth u n.toNat<=x:=h _ (by omega)
theorem Z6 l(hl:l.length<=1000000):oK l=some ⟨ l.length,totT l⟩:=by
 unfold oK;have:=dM (step:=λs:Int×Int×Int×Int×Int×Int=>oJ l s.1 s.2.1 s.2.2.1 s.2.2.2.1 s.2.2.2.2.1 s.2.2.2.2.2)
  (λs=>some ⟨(l.length:Int),(l.drop s.1.toNat).foldl O2 [s.2.1,s.2.2.1,s.2.2.2.1,s.2.2.2.2.1,s.2.2.2.2.2]⟩)
  (λs=>0<=s.1/\s.1<=(l.length:Int)/\∀j,j<5->0<=nth [s.2.1,s.2.2.1,s.2.2.2.1,s.2.2.2.2.1,s.2.2.2.2.2] j/\nth [s.2.1,s.2.2.1,s.2.2.2.1,s.2.2.2.2.1,s.2.2.2.2.2] j<=s.1*1099511627776)
  (λs=>((l.length:Int) - s.1).toNat) (by
   rintro⟨i,c1,c,b,d,e⟩ ⟨h0,h1,h2⟩;simp only at h0 h1 h2 ⊢;unfold oJ;by_cases hi:i<(l.length:Int)
   .right;have f:=j7 (l:=l) (k:=i.toNat) (by omega);rw[zab (by simp_all),ae ⟨h0,hi⟩];generalize nth l i.toNat=r at *;simp only[er,zac,vi];have a:=five (u:=[c1,c,b,d,e]) rfl;generalize g:[c1,c,b,d,e]=u at *;have h:u.length=5:=by rw[←g];rfl
    by_cases hk:okT r=true
    .have M:=hk;simp only[okT,zcc]at M;have m:=five_bd h2 M.1 M.2.1;have R:O2 u r=uU u 5 r.kind.toNat (nth u r.kind.toNat+r.aX):=zab hk;rw[zab (by grind),ae (by omega),ae (by omega),ae (by omega),ae (by omega),ae (by omega),ae (by omega)];refine⟨_,rfl,⟨by omega,by omega,?_⟩,by omega,?_⟩
     .simp only;rw[←R,five (O3 h r)];intro j H;rw[Z5 u r H];have:=h2 j H;have:=conT_bd r j;omega
     .simp only;rw[←R,five (O3 h r),show(i+1).toNat=i.toNat+1 from by omega,f,zfg]
    .have M:=hk;simp only[okT,zcc]at M;have R:O2 u r=u:=zaa hk;rw[zaa (by grind),ae (by omega)]
     grind
   .left;rw[zaa (by simp_all),zbs (by omega)];simp_all) (s:=(0,0,0,0,0,0)) ⟨by simp,by simp,by
     intro j H
     match j,H with
     | 0,_=>simp[nth]
     | 1,_=>simp[nth]
     | 2,_=>simp[nth]
     | 3,_=>simp[nth]
     | 4,_=>simp[nth]⟩ (by omega)
 rw[this];rfl
def sum_tot b(H:b.length<=1000000000):∃n,oe b=some n:=by
 unfold oe;obtain⟨r,h,_⟩:=rR (step:=λs:Int×Int=>sF b s.1 s.2) (λ_=>True) (λs=>0<=s.2/\s.2<=(b.length:Int)) (λs=>((b.length:Int) - s.2).toNat) (by
  rintro⟨n,i⟩ ⟨h0,h1⟩;simp only at h0 h1 ⊢;unfold sF;by_cases hi:i<(b.length:Int)
  .rw[zab (by simp_all),ae ⟨h0,hi⟩,ae (by omega)]
   grind
  .rw[zaa (by simp_all)];simp_all) (s:=(2166136261,0)) ⟨by simp,by simp⟩ (by omega)
 simp_all
def sumW(b:LQ uA):= (oe b).getD 0
def p_Sum b(H:b.length<=1000000000):oe b=some (sumW b):=by
 obtain⟨n,h⟩:=sum_tot b H;unfold sumW;rw[h];rfl
end Go.Proofs.YtleflofddacmdaaGreatDoor.C12
namespace Go.Proofs.YtleflofddacmdaaGreatDoor.C11
open Go.RowKit Go.Abs
def pk(n:Int):= UInt8.ofInt (n / 10 % 10*16+n % 10)
def yz:Nat->Int->List uA
 | 0,_=>[]
 | k+1,n=>pk (n / 100 ^ k)::yz k n
def My{n m:Int}(h:0<=n):Int.tdiv n m=n / m:=Int.tdiv_eq_ediv_of_nonneg h
def T3{n m:Int}(h:0<=n):Int.tmod n m=n % m:=Int.tmod_eq_emod_of_nonneg h
def E5(k):(100:Int) ^ (k+1)=100 ^ k*100:=by rw[Int.pow_succ]
def RA(k):(0:Int)<100 ^ k:=Int.pow_pos (by decide)
def div_pow{n:Int}(k):n / 100 ^ k / 100=n / 100 ^ (k+1):=by
 rw[E5,Int.ediv_ediv_of_nonneg (Int.le_of_lt (RA k))]
def sX{p:uA->Prop}(h:∀n:Fin 256,p (UInt8.ofNat n.val))(x):p x:=by
 have:=h ⟨x.toNat,x.toNat_lt⟩;simp_all
def Km(x):eX x 4=x / 16:=sX (p:=λx=>eX x 4=x / 16) (by decide +kernel) x
def O4(x:uA):x &&& 15=x % 16:=sX (p:=λx=>x &&& 15=x % 16) (by decide +kernel) x
theorem Is(x:uA):(x / 16).toNat=x.toNat / 16:=by simp
theorem Z7(x:uA):(x % 16).toNat=x.toNat % 16:=by simp
def Mz:Int->List uA->Int×Int
 | n,[]=>(n,0)
 | n,x::xs=>if 9<x.toNat / 16∨9<x.toNat % 16 then(0,1)else Mz (100*n+(x.toNat / 16:Nat)*10+(x.toNat % 16:Nat)) xs
def lI(b:LQ uA):= if b.length<1∨b.length > 9 then(0,6)else Mz 0 b
def VG{b:LQ uA}{i} n(h:i<b.length):Mz n (b.drop i)=if 9<(nth b i).toNat / 16∨9<(nth b i).toNat % 16 then(0,1)else Mz (100*n+((nth b i).toNat / 16:Nat)*10+((nth b i).toNat % 16:Nat)) (b.drop (i+1)):=by
 rw[cV h,zdk h,Mz]
def u8_gt9h(x:uA):decide (x / 16 > 9)=decide (9<x.toNat / 16):=by
 rw[zbt,zbo,zbo,gt_iff_lt,zde,Is];grind
def u8_gt9l(x:uA):decide (x % 16 > 9)=decide (9<x.toNat % 16):=by
 rw[zbt,zbo,zbo,gt_iff_lt,zde,Z7];grind
def decI(b:LQ uA)(n i:Int):= 0<=i/\i<=b.length/\0<=n/\n<100 ^ i.toNat
def VI{b n i}{x y:Nat}(h:decI b n i)(hi:i<b.length)(hx:x<=9)(hy:y<=9):decI b (100*n+x*10+y) (i+1):=by
 obtain⟨h1,h2,h3,h4⟩:=h;have:(i+1).toNat=i.toNat+1:=by omega
 refine⟨by omega,by omega,by omega,?_⟩;rw[this,E5];omega
def pow_le8{k}(h:k<=8):(100:Int) ^ k<=10000000000000000:=by
 have:∀j:Fin 9,(100:Int) ^ j.val<=10000000000000000:=by decide +kernel
 exact this ⟨k,by omega⟩
def VJ b(c:b.length<=1000000000):lV b=some (lI b):=by
 unfold lV lI;by_cases h:b.length<1∨b.length > 9
 .rw[zab (by grind),zab h]
 .rw[zaa (by grind),zaa h];refine dM (λs=>some (Mz s.1 (b.drop s.2.toNat))) (λs:Int×Int=>decI b s.1 s.2) (λs=>((b.length:Int) - s.2).toNat) (λs H=>?_) ⟨by omega,by omega,by omega,by simp⟩ (by omega);obtain⟨n,i⟩:=s;obtain⟨h1,h2,h3,h4⟩:=id H;simp only[]at *;unfold ra;by_cases hi:i<(b.length:Int)
  .have d:=pow_le8 (k:=i.toNat) (by omega);rw[zab (by simp_all),ae ⟨h1,hi⟩,ae (by decide),Km,O4,u8_gt9h,u8_gt9l];have a:=VG n (show i.toNat<b.length by omega);generalize nth b (i.toNat)=x at a;by_cases hx:9<x.toNat / 16∨9<x.toNat % 16
   .rw[zab (by simp_all)];simp_all
   .rw[zaa (by simp_all),Is,Z7,ae (by omega),ae (by decide),ae (by omega),ae (by omega),ae (by omega),ae (by omega)];refine .inr ⟨_,rfl,VI H hi (by omega) (by omega),by omega,?_⟩;rw[a,zaa hx,show(i+1).toNat=i.toNat+1 by omega]
  .rw[zaa (by simp_all)];refine .inl ⟨_,rfl,?_⟩;rw[zbs (by omega)];rfl
def pk_nat q(h:0<=q):(pk q).toNat / 16=(q / 10 % 10).toNat/\(pk q).toNat % 16=(q % 10).toNat:=by
 have key:∀x y:Fin 10,(UInt8.ofInt ((x.val:Int)*16+(y.val:Int))).toNat=x.val*16+y.val:=by decide +kernel
 have:=key ⟨(q / 10 % 10).toNat,by omega⟩ ⟨(q % 10).toNat,by omega⟩;simp only[zgd (show 0<=q / 10 % 10 by omega),zgd (show 0<=q % 10 by omega)]at this;unfold pk;rw[this];omega
end Go.Proofs.YtleflofddacmdaaGreatDoor.C11
namespace Go.Proofs.YtleflofddacmdaaGreatDoor.C12
open Go.RowKit Go.Abs
def zz(u:Int):= if u % 2=1 then -(u / 2) - 1 else u / 2
def rL:Nat->Int->List uA->Int×Nat×Int
 | _,_,[]=>(0,0,2)
 | i,u,x::t=>if i=9/\x≠1∨0<i/\x=0 then(0,0,1)else if x.toNat<128 then(zz (u+x.toNat*128 ^ i),i+1,0)else rL (i+1) (u+(x.toNat % 128:Nat)*128 ^ i) t
def lJ(b:LQ uA):= if(rL 0 0 b).2.2=0 then((rL 0 0 b).1,b.drop (rL 0 0 b).2.1,0)else(0,[],(rL 0 0 b).2.2)
def Z8(i):128 ^ i=((2 ^ (7*i):Nat):Int):=by
 rw[Nat.pow_mul];simp
theorem RB:∀i:Fin 10,(128:Int) ^ i.val<=9223372036854775808/\1<=(128:Int) ^ i.val:=by decide
theorem O5:∀i:Fin 9,(128:Int) ^ i.val<=72057594037927936:=by decide
def Kn{i}(h:i<=9):(128:Int) ^ i<=9223372036854775808/\1<=(128:Int) ^ i:=RB ⟨i,by omega⟩
def Z9{i}(h:i<=8):(128:Int) ^ i<=72057594037927936:=O5 ⟨i,by omega⟩
def wrap_u64{n}(h0:0<=n)(h1:n<18446744073709551616):IntKind.wrap .u64 n=n:=by simp[IntKind.wrap,IntKind.bits,IntKind.signed];omega
def Ex{n}(h0:-9223372036854775808<=n)(h1:n<=9223372036854775807):IntKind.wrap .i64 n=n:=by simp[IntKind.wrap,IntKind.bits,IntKind.signed];omega
def bor_add{i u c}(b:0<=u)(hu:u<128 ^ i)(d:0<=c)(h:u+c*128 ^ i<18446744073709551616):IV .u64 u (c*128 ^ i)=u+c*128 ^ i:=by
 have e:=Z8 i;have H:0<=c*128 ^ i:=zgg d (by have:=Int.pow_pos (n:=128) (m:=i) (by decide);omega);unfold IV;obtain⟨a,rfl⟩:=zec b;obtain⟨k,rfl⟩:=zec d;rw[e]at hu h H ⊢;have A:a<2 ^ (7*i):=by omega
 have f:((k:Int)*((2 ^ (7*i):Nat):Int))=((2 ^ (7*i)*k:Nat):Int):=by grind
 rw[f]at h H ⊢;have h':a+2 ^ (7*i)*k<18446744073709551616:=by have:=h;omega
 have g:(BitVec.ofInt (IntKind.bits .u64) (a:Int) ||| BitVec.ofInt (IntKind.bits .u64) ((2 ^ (7*i)*k:Nat):Int)).toNat=a+2 ^ (7*i)*k:=by
  rw[BitVec.toNat_or,zdm,zdm,zdt,zdt];have b1:a % 2 ^ IntKind.bits .u64=a:=zdl (show a<18446744073709551616 by omega);have b2:2 ^ (7*i)*k % 2 ^ IntKind.bits .u64=2 ^ (7*i)*k:=zdl (show 2 ^ (7*i)*k<18446744073709551616 by omega);rw[b1,b2,Nat.or_comm,←Nat.two_pow_add_eq_or_of_lt A,zfi]
 rw[g,wrap_u64 (by omega) (by have:=h';omega)];omega
def and127:∀x:uA,(x &&& 127).toNat=x.toNat % 128:=by
 intro x;have h:=C11.sX (p:=λx=>(x &&& 127).toNat=x.toNat % 128) (by decide +kernel) x;exact h
def p_back u(h0:0<=u)(h1:u<18446744073709551616):rv u=some (zz u):=by
 unfold rv;have b:Gq .u64 u 1=u % 2:=by
  unfold Gq;obtain⟨a,rfl⟩:=zec h0;have e:(BitVec.ofInt (IntKind.bits .u64) (a:Int) &&& BitVec.ofInt (IntKind.bits .u64) 1).toNat=a % 2:=by
   rw[BitVec.toNat_and,zdm,zdt];have b1:a % 2 ^ IntKind.bits .u64=a:=zdl (show a<18446744073709551616 by omega);have b2:(BitVec.ofInt (IntKind.bits .u64) 1).toNat=1:=by decide
   rw[b1,b2,Nat.and_one_is_mod]
  rw[e,wrap_u64 (by omega) (by omega)];omega
 have ef:Int.fdiv u (2 ^ (min (Int.toNat (1)) 64))=u / 2:=by
  have:(2:Int) ^ (min (Int.toNat (1)) 64)=2:=by decide
  rw[this,zfd _ (by decide)]
 rw[b,ef,Ex (n:=u % 2) (by omega) (by omega),Ex (n:=u / 2) (by omega) (by omega),ae (by decide),ae (by omega)];congr 1;unfold zz;have H:0<=u / 2/\u / 2<=9223372036854775807:=by omega
 generalize u / 2=q at *;by_cases h:u % 2=1
 .rw[zab h,h];unfold M7;obtain⟨a,rfl⟩:=zec H.1;have e:BitVec.ofInt (IntKind.bits .i64) (-1)=BitVec.allOnes (IntKind.bits .i64):=by decide
  rw[e,BitVec.xor_allOnes,BitVec.toNat_not,zdm,zdt];have b1:a % 2 ^ IntKind.bits .i64=a:=zdl (show a<18446744073709551616 by omega);rw[b1];simp[IntKind.wrap,IntKind.bits,IntKind.signed];omega
 .rw[zaa h];have:u % 2=0:=by omega
  rw[this];unfold M7;obtain⟨a,rfl⟩:=zec H.1;have e:BitVec.ofInt (IntKind.bits .i64) (-0)=0#(IntKind.bits .i64):=by decide
  rw[e,BitVec.xor_zero,zdm,zdt];have b1:a % 2 ^ IntKind.bits .i64=a:=zdl (show a<18446744073709551616 by omega);rw[b1,Ex (by omega) (by omega)]
def VK{b k} i u(h:k<b.length):rL i u (b.drop k)=if i=9/\nth b k≠1∨0<i/\nth b k=0 then(0,0,1)else if(nth b k).toNat<128 then(zz (u+(nth b k).toNat*128 ^ i),i+1,0)else rL (i+1) (u+((nth b k).toNat % 128:Nat)*128 ^ i) (b.drop (k+1)):=by
 rw[j7 h];rfl
def lt128{x:uA}:decide (x<128)=decide (x.toNat<128):=by
 congr 1
def numI(b:LQ uA)(u i:Int):= 0<=i/\i<=9/\i<=b.length/\0<=u/\u<128 ^ i.toNat
def VL{b u i}{x:uA}(h:numI b u i)(hi:i<b.length)(hx:¬(i.toNat=9/\x≠1∨0<i.toNat/\x=0)):
  u+x.toNat*128 ^ i.toNat<18446744073709551616/\(¬x.toNat<128->numI b (u+(x.toNat % 128:Nat)*128 ^ i.toNat) (i+1)):=by
 obtain⟨h0,g,hl,a,j⟩:=h;have k:=Kn (i:=i.toNat) (by omega);have c:=x.toNat_lt;by_cases d:i.toNat=9
 .have H:x=1:=by
   simp_all
  subst H;have:(1:uA).toNat=1:=rfl;rw[this];omega
 .have l:=Z9 (i:=i.toNat) (by omega);have hmul:(x.toNat:Int)*128 ^ i.toNat<=255*128 ^ i.toNat:=zdw (by omega) (by omega);refine⟨by omega,λhn=>⟨by omega,by omega,by omega,?_,?_⟩⟩
  .have:0<=((x.toNat % 128:Nat):Int)*128 ^ i.toNat:=zgg (by omega) (by omega);omega
  .have e:(i+1).toNat=i.toNat+1:=by omega
   have f:((x.toNat % 128:Nat):Int)*128 ^ i.toNat<=127*128 ^ i.toNat:=zdw (by omega) (by omega);rw[e,Int.pow_succ];omega
def p_scan b(p:b.length<=1000000):ry b=some ((rL 0 0 b).1,((rL 0 0 b).2.1:Int),(rL 0 0 b).2.2):=by
 unfold ry;have:=dM (step:=λs:Int×Int=>qK b s.1 s.2) (λs=>let r:=rL s.2.toNat s.1 (b.drop s.2.toNat);some (r.1,(r.2.1:Int),r.2.2)) (λs=>numI b s.1 s.2) (λs=>((b.length:Int) - s.2).toNat) (by
  rintro⟨u,i⟩ j;have h:numI b u i:=j;clear j;obtain⟨h0,q,hl,a,hu⟩:=id h;simp only;unfold qK;by_cases hi:i<(b.length:Int)
  .rw[zab (by simp_all),ae ⟨h0,hi⟩,VK _ _ (by omega)];generalize hx:nth b i.toNat=x;by_cases c:(i.toNat=9/\x≠1)∨(0<i.toNat/\x=0)
   .have d:(((i==9) && (x != 1)) || ((decide (i > 0)) && (x==0)))=true:=by
     grind
    rw[zab d,zab c];simp_all
   .have d:¬(((i==9) && (x != 1)) || ((decide (i > 0)) && (x==0)))=true:=by
     simp_all
    obtain⟨s1,s2⟩:=VL h hi c;have t:=Kn (i:=i.toNat) (by omega);have f:IntKind.wrap .u64 ((IntKind.wrap .u64 ((x &&& 127).toNat:Int))*2 ^ (min (Int.toNat (7*i)) 64))=((x.toNat % 128:Nat):Int)*128 ^ i.toNat:=by
     rw[and127,wrap_u64 (n:=((x.toNat % 128:Nat):Int)) (by omega) (by omega)];have k:min (Int.toNat (7*i)) 64=7*i.toNat:=by omega
     have l:(2:Int) ^ (7*i.toNat)=128 ^ i.toNat:=by rw[Z8];simp
     rw[k,l];refine wrap_u64 (zgg (by omega) (by omega)) ?_;have:((x.toNat % 128:Nat):Int)*128 ^ i.toNat<=(x.toNat:Int)*128 ^ i.toNat:=zdw (by omega) (by omega);omega
    have g:IV .u64 u (((x.toNat % 128:Nat):Int)*128 ^ i.toNat)=u+((x.toNat % 128:Nat):Int)*128 ^ i.toNat:=by
     refine bor_add a hu (by omega) ?_;have:((x.toNat % 128:Nat):Int)*128 ^ i.toNat<=(x.toNat:Int)*128 ^ i.toNat:=zdw (by omega) (by omega);omega
    rw[zaa d,zaa c,ae (by omega),ae (by omega),f,g,lt128];by_cases H:x.toNat<128
    .have m:((x.toNat % 128:Nat):Int)=(x.toNat:Int):=by omega
     have o:0<=(x.toNat:Int)*128 ^ i.toNat:=zgg (by omega) (by omega);rw[zab (by simp_all),zab H,m,p_back _ (by omega) s1];simp only[zac];rw[ae (by omega)]
     grind
    .rw[zaa (by simp_all),zaa H,ae (by omega)]
     grind
  .have e:i=(b.length:Int):=by omega
   subst e;rw[zaa (by simp)];refine .inl ⟨_,rfl,?_⟩;simp[rL]) (s:=(0,0)) ⟨by simp,by simp,by simp,by simp,by simp⟩ (by omega)
 simp_all
def p_rest b(c:Nat)(a:c<=b.length)(d:b.length<=1000000):rz b c=some (b.drop c):=by
 unfold rz;rw[ae (by omega),ae (by omega),ae (by omega)];have e:b.take (Int.toNat ((b.length:Int)))=b:=zbj (by omega);have h:Int.toNat (c:Int)=c:=by omega
 have H:Int.toNat ((b.length:Int) - (c:Int))=b.length-c:=by omega
 rw[e,h,H]
 grind
def MA:∀b i u,(rL i u b).2.2=0->i<(rL i u b).2.1/\(rL i u b).2.1<=i+b.length
 | [],i,u,h=>by simp[rL]at h
 | x::t,i,u,h=>by
  unfold rL at h ⊢;split at h
  .cases h
  .rename_i H;rw[zaa H];split at h
   .simp_all
   .rename_i hx;rw[zaa hx];have:=MA t (i+1) _ h
    grind
def na b(H:b.length<=1000000):cH b=some (lJ b):=by
 unfold cH lJ;rw[p_scan b H];simp only[zac];by_cases h:(rL 0 0 b).2.2=0
 .have:=MA b 0 0 h;rw[zaa (by simp[h]),zab h,p_rest b _ (by omega) H];rfl
 simp_all
theorem numN_of{b}:lJ b=let r:=rL 0 0 b;if r.2.2=0 then(r.1,b.drop r.2.1,0)else(0,[],r.2.2):=rfl
theorem Ey:∀b i u,i<=9->rL i u (b.take (10-i))=rL i u b
 | [],i,u,_=>by simp
 | x::t,i,u,h=>by
  have e:10-i=(9-i)+1:=by omega
  rw[e,List.take_succ_cons];unfold rL;split
  .rfl
  .rename_i H;split
   .rfl
   .rename_i hx;have a:i≠9:=λc=>by
     have h1:x=1:=by
      simp_all
     simp_all
    have:=Ey t (i+1) (u+((x.toNat % 128:Nat):Int)*128 ^ i) (by omega);rw[show 10-(i+1)=9-i from by omega]at this;exact this
def be4(a b c d:uA):Int:=a.toNat*16777216+b.toNat*65536+c.toNat*256+d.toNat
def kz(b:LQ uA):=
 let r:=rL 0 0 b
 if r.2.2≠0 then([],[],r.2.2)else if r.1<0 then([],[],1)else if 1048576<r.1 then([],[],5)else
 if b.length<r.2.1+4+r.1.toNat then([],[],2)else
 if sumW ((b.drop (r.2.1+4)).take r.1.toNat)≠be4 (nth b r.2.1) (nth b (r.2.1+1)) (nth b (r.2.1+2)) (nth b (r.2.1+3))then([],[],4)else
 ((b.drop (r.2.1+4)).take r.1.toNat,b.drop (r.2.1+4+r.1.toNat),0)
def wrap_u32{n}(h0:0<=n)(h1:n<4294967296):IntKind.wrap .u32 n=n:=by simp[IntKind.wrap,IntKind.bits,IntKind.signed];omega
def aaa{k a c}(ha:a<2 ^ k)(h:a+2 ^ k*c<4294967296):IV .u32 (2 ^ k*c:Nat) (a:Nat)=(2 ^ k*c+a:Nat):=by
 unfold IV;have e:(BitVec.ofInt (IntKind.bits .u32) ((2 ^ k*c:Nat):Int) ||| BitVec.ofInt (IntKind.bits .u32) (a:Int)).toNat=2 ^ k*c+a:=by
  rw[BitVec.toNat_or,zdm,zdm,zdt,zdt];have b1:a % 2 ^ IntKind.bits .u32=a:=zdl (show a<4294967296 by omega);have b2:2 ^ k*c % 2 ^ IntKind.bits .u32=2 ^ k*c:=zdl (show 2 ^ k*c<4294967296 by omega);rw[b1,b2,←Nat.two_pow_add_eq_or_of_lt ha]
 rw[e];exact wrap_u32 (by omega) (by omega)
def be4_or(a b c d):IV .u32 (IV .u32 (IV .u32 (a.toNat*16777216) (b.toNat*65536)) (c.toNat*256)) d.toNat=be4 a b c d:=by
 have ha:=a.toNat_lt;have f:=b.toNat_lt;have g:=c.toNat_lt;have i:=d.toNat_lt;have h1:=aaa (k:=24) (a:=b.toNat*65536) (c:=a.toNat) (by omega) (by omega);have h2:=aaa (k:=16) (a:=c.toNat*256) (c:=a.toNat*256+b.toNat) (by omega) (by omega);have h3:=aaa (k:=8) (a:=d.toNat) (c:=a.toNat*65536+b.toNat*256+c.toNat) (by omega) (by omega);have e:(a.toNat:Int)*16777216=((2 ^ 24*a.toNat:Nat):Int):=by omega
 have h:(b.toNat:Int)*65536=((b.toNat*65536:Nat):Int):=by omega
 have H:(c.toNat:Int)*256=((c.toNat*256:Nat):Int):=by omega
 rw[e,h,h1,show((2 ^ 24*a.toNat+b.toNat*65536:Nat):Int)=((2 ^ 16*(a.toNat*256+b.toNat):Nat):Int)from by omega,H,h2,
  show((2 ^ 16*(a.toNat*256+b.toNat)+c.toNat*256:Nat):Int)=((2 ^ 8*(a.toNat*65536+b.toNat*256+c.toNat):Nat):Int)from by omega,h3]
 unfold be4;omega
def aab(x:uA)(k:Nat)(hk:k=24∨k=16∨k=8):IntKind.wrap .u32 (IntKind.wrap .u32 x.toNat*2 ^ min (Int.toNat k) 32)=x.toNat*2 ^ k:=by
 have hx:=x.toNat_lt;rw[wrap_u32 (n:=(x.toNat:Int)) (by omega) (by omega)];rcases hk with rfl|rfl|rfl
 .have e:(2:Int) ^ (min (Int.toNat ((24:Nat):Int)) 32)=16777216:=by decide
  have e':(2:Int) ^ 24=16777216:=by decide
  rw[e,e',wrap_u32 (by omega) (by omega)]
 .have e:(2:Int) ^ (min (Int.toNat ((16:Nat):Int)) 32)=65536:=by decide
  have e':(2:Int) ^ 16=65536:=by decide
  rw[e,e',wrap_u32 (by omega) (by omega)]
 .have e:(2:Int) ^ (min (Int.toNat ((8:Nat):Int)) 32)=256:=by decide
  have e':(2:Int) ^ 8=256:=by decide
  rw[e,e',wrap_u32 (by omega) (by omega)]
def shl24(x:uA):IntKind.wrap .u32 (IntKind.wrap .u32 x.toNat*2 ^ min (Int.toNat 24) 32)=x.toNat*16777216:=aab x 24 (by simp)
def shl16(x:uA):IntKind.wrap .u32 (IntKind.wrap .u32 x.toNat*2 ^ min (Int.toNat 16) 32)=x.toNat*65536:=aab x 16 (by simp)
def shl8(x:uA):IntKind.wrap .u32 (IntKind.wrap .u32 x.toNat*2 ^ min (Int.toNat 8) 32)=x.toNat*256:=aab x 8 (by simp)
def take_m(b:LQ uA):b.take (Int.toNat (if 10<(b.length:Int)then 10 else b.length))=b.take 10:=by
 split
 .rfl
 .rw[zbj (by omega),zbj (by omega)]
def O6 b(i j:Nat)(h1:i<=j)(h2:j<=b.length)(a:b.length<=1000000):kZ b i j=some ((b.drop i).take (j-i)):=by
 unfold kZ;rw[ae (by omega),ae (by omega),ae (by omega)];have e:Int.toNat (i:Int)=i:=by omega
 have h:Int.toNat (j:Int)=j:=by omega
 have H:Int.toNat ((j:Int) - (i:Int))=j-i:=by omega
 rw[e,h,H,zfl];have c:((b.drop i).take (j-i)).length=j-i:=by grind
 grind
def It b(H:b.length<=1000000):jg b=some (kz b):=by
 unfold jg sG kz;rw[ae (by split<;>omega),take_m,na _ (by grind),numN_of,Ey b 0 0 (by omega)];have h:=MA (b.take 10) 0 0;rw[Ey b 0 0 (by omega)]at h;generalize rL 0 0 b=r at h ⊢;obtain⟨n,c,e⟩:=r;simp only[zac]at h ⊢;have a:(b.take 10).length=min 10 b.length:=zaw;by_cases d:e=0
 .subst d;have h:=h rfl;simp only[zce,ne_eq,zbw,zbq];rw[zaa (by simp)];by_cases h1:n<0
  .rw[zab (by simp_all),zab h1];rfl
  .rw[zaa (by simp_all),zaa h1];by_cases h2:1048576<n
   .rw[zab (by simp_all),zab h2];rfl
   .rw[zaa (by simp_all),zaa h2];have f:((b.take 10).length:Int) - (((b.take 10).drop c).length:Int)=(c:Int):=by
     rw[zbc];omega
    have hn:(n.toNat:Int)=n:=by omega
    simp only[f];rw[ae (by omega),ae (by omega),ae (by omega)];by_cases h3:b.length<c+4+n.toNat
    .rw[zab (by grind),zab h3];rfl
    .have g:Int.toNat (c:Int)=c:=by omega
     have i:Int.toNat ((c:Int)+1)=c+1:=by omega
     have j:Int.toNat ((c:Int)+2)=c+2:=by omega
     have k:Int.toNat ((c:Int)+3)=c+3:=by omega
     have m:Int.toNat ((c:Int)+4)=c+4:=by omega
     have o:Int.toNat ((c:Int)+4+n)=c+4+n.toNat:=by omega
     have p:(b.take (c+4+n.toNat)).drop (c+4)=(b.drop (c+4)).take n.toNat:=by
      rw[zfl];simp_all
     rw[zaa (by grind),zaa h3,ae (by omega),ae (by decide),ae (by omega),ae (by omega),ae (by decide),ae (by omega),ae (by omega),ae (by decide),ae (by omega),ae (by omega),ae (by omega),ae (by omega),ae (by omega),ae (by omega),
      g,i,j,k,m,o,p,p_Sum _ (by grind)]
     simp only[zac];have s1:=shl24 (nth b c);have s2:=shl16 (nth b (c+1));have s3:=shl8 (nth b (c+2));have s:=(nth b (c+3)).toNat_lt;rw[s1,s2,s3,wrap_u32 (n:=((nth b (c+3)).toNat:Int)) (by omega) (by omega),be4_or];by_cases h4:sumW ((b.drop (c+4)).take n.toNat)=be4 (nth b c) (nth b (c+1)) (nth b (c+2)) (nth b (c+3))
     .rw[zaa (by simp_all),zaa (by omega),ae (by omega),ae (by omega),ae (by omega)];simp only[zac];have q:(c:Int)+4=((c+4:Nat):Int):=by omega
      have k2:(c:Int)+4+n=((c+4+n.toNat:Nat):Int):=by omega
      rw[zaa (by simp),k2,q,O6 b _ _ (by omega) (by omega) H];simp only[zac];rw[O6 b _ _ (by omega) (by omega) H];simp only[zac];rw[show c+4+n.toNat-(c+4)=n.toNat from by omega,zbj (l:=b.drop (c+4+n.toNat)) (by simp)]
     simp_all
 simp_all
def CY(b):(kz b).1.length<=b.length/\(kz b).2.1.length<=b.length:=by
 unfold kz
 grind
def oY:Nat->List uA->List Int×Int
 | 0,b=>([],if b.length > 0 then 3 else 0)
 | k+1,b=>if(lJ b).2.2≠0 then([],(lJ b).2.2)else((lJ b).1::(oY k (lJ b).2.1).1,(oY k (lJ b).2.1).2)
def rM(b):(lJ b).2.1.length<=b.length:=by
 unfold lJ
 grind
def p_nums4 b h(i:b.length<=1000000):∃h',ni b h=some ((oY 4 b).2,h')/\((oY 4 b).2=0->h'=⟨nth (oY 4 b).1 0,nth (oY 4 b).1 1,nth (oY 4 b).1 2,nth (oY 4 b).1 3⟩):=by
 unfold ni;have l1:=rM b;rw[na b i];simp only[zac,oY];by_cases e:(lJ b).2.2=0
 .have l2:=rM (lJ b).2.1;rw[zaa (by simp[e]),na _ (by omega)];simp only[zac,e,ne_eq,zbw,zbq];generalize(lJ b).2.1=b2 at *;by_cases a:(lJ b2).2.2=0
  .have l3:=rM (lJ b2).2.1;rw[zaa (by simp[a]),na _ (by omega)];simp only[zac,a,ne_eq,zbw,zbq];generalize(lJ b2).2.1=H at *;by_cases c:(lJ H).2.2=0
   .have l4:=rM (lJ H).2.1;rw[zaa (by simp[c]),na _ (by omega)];simp only[zac,c,ne_eq,zbw,zbq];generalize(lJ H).2.1=d at *;by_cases f:(lJ d).2.2=0
    .rw[zaa (by simp[f])];simp only[f,zbw,zbq];unfold nK;generalize(lJ d).2.1=j;by_cases g:j.length > 0
     .rw[zab (by simp_all),zab g];simp_all
     .rw[zaa (by simp_all),zaa g];exact⟨_,rfl,λ_=>rfl⟩
    simp_all
   simp_all
  simp_all
 simp_all
def p_nums5 b u c(k:b.length<=1000000):∃h',jR b ⟨c,u⟩=some ((oY 5 b).2,h')/\((oY 5 b).2=0->h'=⟨nth (oY 5 b).1 0,[nth u 0,nth (oY 5 b).1 1,nth (oY 5 b).1 2,nth (oY 5 b).1 3,nth (oY 5 b).1 4]⟩):=by
 unfold jR;have l1:=rM b;rw[na b k];simp only[zac,oY];by_cases e:(lJ b).2.2=0
 .have l2:=rM (lJ b).2.1;rw[zaa (by simp[e]),na _ (by omega)];simp only[zac,e,ne_eq,zbw,zbq];generalize(lJ b).2.1=b2 at *;by_cases a:(lJ b2).2.2=0
  .have l3:=rM (lJ b2).2.1;rw[zaa (by simp[a]),na _ (by omega)];simp only[zac,a,ne_eq,zbw,zbq];generalize(lJ b2).2.1=h at *;by_cases d:(lJ h).2.2=0
   .have l4:=rM (lJ h).2.1;rw[zaa (by simp[d]),na _ (by omega)];simp only[zac,d,ne_eq,zbw,zbq];generalize(lJ h).2.1=H at *;by_cases f:(lJ H).2.2=0
    .have l5:=rM (lJ H).2.1;rw[zaa (by simp[f]),na _ (by omega)];simp only[zac,f,ne_eq,zbw,zbq];generalize(lJ H).2.1=g at *;by_cases i:(lJ g).2.2=0
     .rw[zaa (by simp[i])];simp only[i,zbw,zbq];unfold ko;generalize(lJ g).2.1=l;by_cases j:l.length > 0
      .rw[zab (by simp_all),zab j];simp_all
      .rw[zaa (by simp_all),zaa j];exact⟨_,rfl,λ_=>rfl⟩
     simp_all
    simp_all
   simp_all
  simp_all
 simp_all
def hdE(h:Head):= if Ie h.source h.number h.format=0 then if h.count<0∨4096<h.count then 5 else 0 else Ie h.source h.number h.format
def hdT(l:LQ Int):Head:=⟨nth l 0,nth l 1,nth l 2,nth l 3⟩
def uI(b:LQ uA):=
 if(kz b).2.2≠0 then(⟨0,0,0,0⟩,[],(kz b).2.2)else
 if(oY 4 (kz b).1).2≠0 then(⟨0,0,0,0⟩,[],(oY 4 (kz b).1).2)else
 if hdE (hdT (oY 4 (kz b).1).1)≠0 then(⟨0,0,0,0⟩,[],hdE (hdT (oY 4 (kz b).1).1))else(hdT (oY 4 (kz b).1).1,(kz b).2.1,0)
def p_first b(d:b.length<=100000):qf b=some (uI b):=by
 unfold qf uI;have hl:=CY b;rw[It b (by omega)];simp only[zac];by_cases H:(kz b).2.2=0
 .obtain⟨h',g,a⟩:=p_nums4 (kz b).1 ⟨0,0,0,0⟩ (by omega);rw[zaa (by simp[H]),zaa (by simp[H]),g];simp only[zac];by_cases e:(oY 4 (kz b).1).2=0
  .have c:=a e;subst c;rw[zaa (by simp[e]),zaa (by simp[e]),Rk];simp only[zac];show(if(hdE (hdT (oY 4 (kz b).1).1) != 0)=true then _ else _)=_;by_cases h:hdE (hdT (oY 4 (kz b).1).1)=0
   .rw[zaa (by simp[h]),zaa (by simp[h])];rfl
   .rw[zab (by simp_all),zab h];rfl
  simp_all
 simp_all
def totL(l:LQ Int):fE:=⟨nth l 0,[0,nth l 1,nth l 2,nth l 3,nth l 4]⟩
def VM(b:LQ uA):=
 if(kz b).2.2≠0 then(⟨0,[0,0,0,0,0]⟩,(kz b).2.2)else if(kz b).2.1.length > 0 then(⟨0,[0,0,0,0,0]⟩,3)else
 if(oY 5 (kz b).1).2≠0 then(⟨0,[0,0,0,0,0]⟩,(oY 5 (kz b).1).2)else(totL (oY 5 (kz b).1).1,0)
def VN b(c:b.length<=100000):∃t,nt b=some (t,(VM b).2)/\((VM b).2=0->t=(VM b).1):=by
 unfold nt VM;have hl:=CY b;rw[It b (by omega)];simp only[zac];by_cases e:(kz b).2.2=0
 .by_cases h:(kz b).2.1.length > 0
  .have:(((kz b).2.2==0) && (decide (((kz b).2.1.length:Int) > 0)))=true:=by
    simp_all
   rw[zab this];simp only[e,h,ne_eq,zbw,zbq,zce];unfold ff;rw[zab (by decide)];simp_all
  .have:¬(((kz b).2.2==0) && (decide (((kz b).2.1.length:Int) > 0)))=true:=by
    simp_all
   obtain⟨h',g,a⟩:=p_nums5 (kz b).1 [0,0,0,0,0] 0 (by omega);rw[zaa this];simp only[e,h,ne_eq,zbw,zbq];unfold ff;rw[zaa (by decide),g];simp only[zac];by_cases H:(oY 5 (kz b).1).2=0
   .simp only[H,zbw,zbq];exact⟨_,rfl,λ_=>(a H).trans rfl⟩
   simp_all
 .have:¬(((kz b).2.2==0) && (decide (((kz b).2.1.length:Int) > 0)))=true:=by
   simp_all
  rw[zaa this];unfold ff;rw[zab (by simp_all)];simp_all
end Go.Proofs.YtleflofddacmdaaGreatDoor.C12
namespace Go.Proofs.YtleflofddacmdaaGreatDoor.C11
open Go.RowKit Go.Abs
def VO(s:LQ uA)(i k:Nat):= if k=0 then UInt8.ofNat s.length else if k<=i then nth s (k-1) - 48 else 0
def aac(s:LQ uA)(i:Nat):= (List.range 8).map λj=>VO s i (2*j)*16+VO s i (2*j+1)
def aad(s:LQ uA):= aac s s.length
def O7 s(i):(aac s i).length=8:=by simp[aac]
def aae{s i j}(h:j<8):nth (aac s i) j=VO s i (2*j)*16+VO s i (2*j+1):=by
 rw[cV (by rw[O7];exact h)];simp[aac]
def aaf(b:LQ uA):= b.foldl (·+·) 0
def RC{b:LQ uA}{i} n(h:i<b.length):(b.drop i).foldl (·+·) n=(b.drop (i+1)).foldl (·+·) (n+nth b i):=by
 rw[cV h,zdk h,zfg]
def p_sum b(H:b.length<=1000000000):rB b=some (aaf b):=by
 unfold rB;refine dM (λs=>some ((b.drop s.2.toNat).foldl (·+·) s.1)) (λs:uA×Int=>0<=s.2/\s.2<=(b.length:Int)) (λs=>((b.length:Int) - s.2).toNat) (λs h=>?_) ⟨by omega,by omega⟩ (by omega)
 obtain⟨n,i⟩:=s;simp only[]at h ⊢;unfold wQ;by_cases hi:i<(b.length:Int)
 .rw[zab (by simp_all),ae ⟨h.1,hi⟩,ae (by omega)];refine .inr ⟨_,rfl,by omega,by omega,?_⟩;rw[RC n (by omega:i.toNat<b.length),show(i+1).toNat=i.toNat+1 by omega]
 .rw[zaa (by simp_all)];refine .inl ⟨_,rfl,?_⟩;rw[zbs (by omega)];rfl
def flagF(r:aa):= UInt8.ofInt (r.kind*16+((if r.last then 1 else 0)+if r.bz then 2 else 0))
def headB(r:aa):= yz 1 r.source++yz 5 r.aJ++[flagF r]++aad r.a++aad r.b
def T4(r:aa):= headB r++yz 6 r.start++yz 7 r.aX++yz 5 r.call++yz 1 r.part++yz 2 r.cN
def bytesF(r:aa):= T4 r++[aaf (T4 r)]
def O8(s):(aad s).length=8:=O7 _ _
def j9(f:LQ uA)(k:Nat):= if k % 2=0 then nth f (k / 2) / 16 else nth f (k / 2) % 16
def tf(f:LQ uA):= (nth f 0).toNat / 16
def CZ(f:List uA)
 | _,0,out=>(out,true)
 | k,m+1,out=>if k<=tf f/\(j9 f k).toNat<=9 then CZ f (k+1) m (out++[48+j9 f k])else if k<=tf f∨j9 f k≠0 then([],false)else CZ f (k+1) m out
def Bd(f:LQ uA):= CZ f 1 15 []
def le9(x:uA):decide (x<=9)=decide (x.toNat<=9):=by
 rw[zbt,zbo,zbo,zfw];grind
theorem iz f(a:f.length=8):np f=some (Bd f):=by
 unfold np;rw[ae (by omega),ae (by decide)];refine dM (λs=>some (CZ f (s.2.toNat+1) (15-s.2.toNat) s.1)) (λs:LQ uA×Int=>0<=s.2/\s.2<=15/\(s.1.length:Int)<=s.2) (λs=>(15-s.2).toNat) (λs b=>?_) ⟨by omega,by omega,by simp⟩ (by simp);obtain⟨out,i⟩:=s;obtain⟨h1,h2,h3⟩:=b;simp only[]at h1 h2 h3 ⊢;unfold sJ;by_cases hi:i<15
 .rw[zab (by simp_all),ae (by omega),T3 h1,My h1,My (by omega),ae (by omega),ae (by rw[a];omega),ae (by decide),ae (by decide)];obtain⟨m,d⟩:∃m,15-i.toNat=m+1:=⟨14-i.toNat,by omega⟩;have e:15-(i+1).toNat=m:=by omega
  have j:(i+1).toNat+1=i.toNat+1+1:=by omega
  have main:∀y:uA,y=j9 f (i.toNat+1)->(∃r,fe f out i y=some (.inr r)/\some (CZ f (i.toNat+1) (15-i.toNat) out)=some r)∨∃H:LQ uA×Int,fe f out i y=some (.inl H)/\(0<=H.2/\H.2<=15/\(H.1.length:Int)<=H.2)/\(15-H.2).toNat<(15-i).toNat/\some (CZ f (H.2.toNat+1) (15-H.2.toNat) H.1)=some (CZ f (i.toNat+1) (15-i.toNat) out):=by
   rintro y rfl;unfold fe;rw[Km,Is,le9,d,CZ];have k:(i<(((nth f (Int.toNat 0)).toNat / 16:Nat):Int))↔i.toNat+1<=tf f:=by unfold tf;rw[show Int.toNat 0=0 from rfl];omega
   by_cases c1:i.toNat+1<=tf f
   .by_cases g:(j9 f (i.toNat+1)).toNat<=9
    .rw[zab (by simp_all),zab ⟨c1,g⟩,ae (by grind),ae (by omega)]
     grind
    grind
   .rw[zaa (λh=>c1 h.1:¬(i.toNat+1<=tf f/\(j9 f (i.toNat+1)).toNat<=9)),zaa (by grind)];by_cases c:j9 f (i.toNat+1)≠0
    .rw[zab (by simp_all),zab (.inr c)];simp_all
    .rw[zaa (by simp_all),zaa (λh=>h.elim c1 c),ae (by omega)]
     grind
  by_cases l:i % 2=0
  .rw[zab (by simp_all),ae (by omega),ae (by rw[a];omega)];refine main _ ?_;unfold j9;rw[zaa (by omega),O4,show Int.toNat (i / 2)=(i.toNat+1) / 2 by omega]
  .rw[zaa (by simp_all)];refine main _ ?_;unfold j9;rw[zab (by omega),Km,show Int.toNat ((i+1) / 2)=(i.toNat+1) / 2 by omega]
 .have:i=15:=by omega
  subst this;rw[zaa (by simp)];exact .inl ⟨_,rfl,rfl⟩
def Iu(f):∀(m k) out,(CZ f k m out).1.length<=out.length+m
 | 0,k,out=>by simp[CZ]
 | m+1,k,out=>by
  unfold CZ;split
  .have:=Iu f m (k+1) (out++[48+j9 f k])
   grind
  .split
   .simp
   .have:=Iu f m (k+1) out;omega
def O9(f):(Bd f).1.length<=15:=by have:=Iu f 15 1 [];simpa[Bd] using this
def Z:aa:=⟨0,0,0,[],[],0,0,0,0,false,0,false⟩
def cut(b:LQ uA)(i n:Nat):= (b.drop i).take n
def Jp(b:LQ uA):aa:=⟨(lI (cut b 0 1)).1,(lI (cut b 1 5)).1,((nth b 6).toNat / 16:Nat),(Bd (cut b 7 8)).1,(Bd (cut b 15 8)).1,(lI (cut b 23 6)).1,(lI (cut b 29 7)).1,(lI (cut b 36 5)).1,(lI (cut b 41 1)).1,nth b 6 % 2==1,(lI (cut b 42 2)).1,decide (nth b 6 % 16>=2)⟩
def Iv(b:LQ uA):= (lI (cut b 0 1)).2==0 && (lI (cut b 1 5)).2==0 && (Bd (cut b 7 8)).2 && (Bd (cut b 15 8)).2 && (lI (cut b 23 6)).2==0 && (lI (cut b 29 7)).2==0 && (lI (cut b 36 5)).2==0 && (lI (cut b 41 1)).2==0 && (lI (cut b 42 2)).2==0 && decide (nth b 6 % 16<=3)
def nB(b:LQ uA):=
 if b.length<45 then(Z,2)else if b.length > 45 then(Z,3)else if aaf (b.take 44)≠nth b 44 then(Z,4)
 else if Iv b=false then(Z,1)else if cL (Jp b)≠0 then(Z,cL (Jp b))else(Jp b,0)
def F3 b bad(n:Nat)(h:n<=b.length):dv n ⟨b,bad⟩=some (b.take n,⟨b.drop n,bad⟩):=by
 unfold dv;simp only[];rw[ae (by omega),ae (by omega),zcl]
def nZ b bad(n:Nat)(h:n<=b.length)(hn:n<=1000):bI n ⟨b,bad⟩=some ((lI (b.take n)).1,⟨b.drop n,bad || (lI (b.take n)).2 != 0⟩):=by
 unfold bI;rw[F3 b bad n h];simp only[zac];rw[VJ _ (by grind)];rfl
def Ko b bad(h:8<=b.length):eO ⟨b,bad⟩=some ((Bd (b.take 8)).1,⟨b.drop 8,bad || !(Bd (b.take 8)).2⟩):=by
 unfold eO;rw[show(8:Int)=((8:Nat):Int)from rfl,F3 b bad 8 h];simp only[zac];rw[iz _ (by grind)];rfl
theorem Pb b(i n):(b.drop i).take n=cut b i n:=rfl
def u8_bits(x:uA):x % 16<=3->(x &&& 1 != 0)=(x % 2==1)/\(x &&& 2 != 0)=decide (x % 16>=2):=sX (p:=λx=>x % 16<=3->((x &&& 1) != 0)=((x % 2)==1)/\((x &&& 2) != 0)=decide (x % 16>=2)) (by decide +kernel) x
def RD b(f:b.length<=100000):nq b=some (nB b):=by
 unfold nq nB;by_cases h1:b.length<45
 .rw[zab (by grind),zab h1];rfl
 .rw[zaa (by grind),zaa h1];by_cases h2:b.length > 45
  .rw[zab (by grind),zab h2];rfl
  .have hl:b.length=45:=by omega
   rw[zaa (by grind),zaa h2,ae (by omega),p_sum _ (by grind)];simp only[zac];rw[ae (by omega),show Int.toNat 44=44 from rfl];by_cases h3:aaf (b.take 44)≠nth b 44
   .rw[zab (by simp_all),zab h3];rfl
   .rw[zaa (by simp_all),zaa h3];rw[show(1:Int)=((1:Nat):Int)from rfl,nZ _ _ 1 (by omega) (by omega)];simp only[zac];rw[show(5:Int)=((5:Nat):Int)from rfl,nZ _ _ 5 (by grind) (by omega)];simp only[zac];rw[F3 _ _ 1 (by grind)];simp only[zac];rw[ae (by grind),ae (by decide),Ko _ _ (by grind)];simp only[zac];rw[Ko _ _ (by grind)];simp only[zac];rw[show(6:Int)=((6:Nat):Int)from rfl,nZ _ _ 6 (by grind) (by omega)];simp only[zac];rw[show(7:Int)=((7:Nat):Int)from rfl,nZ _ _ 7 (by grind) (by omega)];simp only[zac];rw[nZ _ _ 5 (by grind) (by omega)];simp only[zac];rw[nZ _ _ 1 (by grind) (by omega)];simp only[zac];rw[show(2:Int)=((2:Nat):Int)from rfl,nZ _ _ 2 (by simp;omega) (by omega)];simp only[zac,zfb,Pb,Nat.reduceAdd,zfr,Km,O4,Is];have e0:b.take 1=cut b 0 1:=rfl;have e:nth (cut b 6 1) (Int.toNat 0)=nth b 6:=by
     rw[show Int.toNat 0=0 from rfl,cV (by simp[cut];omega),cV (by omega)];simp[cut]
    rw[e0,e];have h:(((((((((((lI (cut b 0 1)).2 != 0) || ((lI (cut b 1 5)).2 != 0)) || !(Bd (cut b 7 8)).2) || !(Bd (cut b 15 8)).2) || ((lI (cut b 23 6)).2 != 0)) || ((lI (cut b 29 7)).2 != 0)) || ((lI (cut b 36 5)).2 != 0)) || ((lI (cut b 41 1)).2 != 0)) || ((lI (cut b 42 2)).2 != 0)) || decide (nth b 6 % 16 > 3))=!Iv b:=by
     have:decide (nth b 6 % 16 > 3)=!decide (nth b 6 % 16<=3):=by
      rw[zbt];simp
     unfold Iv;rw[this]
     grind
    rw[h];by_cases H:Iv b=false
    .rw[zab (by simp[H]),zab H];rfl
    .rw[zaa (by simp_all),zaa H];have a:nth b 6 % 16<=3:=by
      have c:Iv b=true:=by simp_all
      simp_all
     obtain⟨b1,b2⟩:=u8_bits _ a;rw[b1,b2];rw[show(⟨(lI (cut b 0 1)).1,(lI (cut b 1 5)).1,(((nth b 6).toNat / 16:Nat):Int),(Bd (cut b 7 8)).1,(Bd (cut b 15 8)).1,(lI (cut b 23 6)).1,(lI (cut b 29 7)).1,(lI (cut b 36 5)).1,(lI (cut b 41 1)).1,(nth b 6 % 2)==1,(lI (cut b 42 2)).1,decide (nth b 6 % 16>=2)⟩:aa)=Jp b from rfl];rw[yp (Jp b) (by have:=O9 (cut b 7 8);simp only[Jp];omega) (by have:=O9 (cut b 15 8);simp only[Jp];omega)];simp only[zac];by_cases d:cL (Jp b)≠0
     .rw[zab (by simp_all),zab d];rfl
     simp_all
def u8_join(x:uA):x / 16*16+x % 16=x:=sX (p:=λx=>(x / 16)*16+x % 16=x) (by grind) x
def Iw(f):∀(m i) s,CZ f (i+1) m ((List.range (min i (tf f))).map λj=>48+j9 f (j+1))=(s,true) ->
  s=(List.range (min (i+m) (tf f))).map (λj=>48+j9 f (j+1))/\∀j,i<j->j<=i+m->(j<=tf f->(j9 f j).toNat<=9)/\(tf f<j->j9 f j=0)
 | 0,i,s,h=>by
  rw[CZ]at h
  grind
 | m+1,i,s,h=>by
  rw[CZ]at h;by_cases h1:i+1<=tf f/\(j9 f (i+1)).toNat<=9
  .rw[zab h1,zga (by omega)]at h;have e:(List.range i).map (λj=>48+j9 f (j+1))++[48+j9 f (i+1)]=(List.range (min (i+1) (tf f))).map (λj=>48+j9 f (j+1)):=by
    rw[zga (by omega),List.range_succ,zcd];rfl
   rw[e]at h;obtain⟨H,a⟩:=Iw f m (i+1) s h
   grind
  .rw[zaa h1]at h;by_cases h2:i+1<=tf f∨j9 f (i+1)≠0
   .rw[zab h2]at h;cases h
   .rw[zaa h2]at h;have b:¬i+1<=tf f:=λh=>h2 (.inl h)
    have h0:j9 f (i+1)=0:=zfh λh=>h2 (.inr h)
    have e:(List.range (min i (tf f))).map (λj=>48+j9 f (j+1))=(List.range (min (i+1) (tf f))).map (λj=>48+j9 f (j+1)):=by
     rw[show min i (tf f)=min (i+1) (tf f) by omega]
    rw[e]at h;obtain⟨H,a⟩:=Iw f m (i+1) s h
    grind
def Kp{f s}(H:f.length=8)(h:Bd f=(s,true)):aad s=f:=by
 obtain⟨e,a⟩:=Iw f 15 0 s (by simpa[Bd] using h);have b:tf f<=15:=by unfold tf;have:=(nth f 0).toNat_lt;omega
 rw[Nat.min_eq_right (by omega)]at e;have hs:s.length=tf f:=by rw[e];simp
 have hn:∀k,k<16->VO s s.length k=j9 f k:=by
  intro k hk;unfold VO;by_cases h0:k=0
  .subst h0;rw[zab rfl,hs];apply zet.1;unfold j9 tf;rw[zab rfl,Is,show(0 / 2:Nat)=0 from rfl,zer];have:=(nth f 0).toNat_lt;omega
  .rw[zaa h0];by_cases h1:k<=s.length
   .rw[zab h1,cV (by omega)]
    grind
   grind
 apply List.ext_getElem
 .rw[O8,H]
 .intro j h1 h2;have D:j<8:=by rw[O8]at h1;exact h1
  refine(cV h1).symm.trans (Eq.trans ?_ (cV h2));unfold aad;rw[aae D,hn _ (by omega),hn _ (by omega)];unfold j9;rw[zab (by omega),zaa (by omega),show 2*j / 2=j by omega,show(2*j+1) / 2=j by omega,u8_join]
def pk_two{m}(hm:0<=m){x}(h1:x.toNat / 16<=9)(h2:x.toNat % 16<=9):pk (100*m+(x.toNat / 16:Nat)*10+(x.toNat % 16:Nat))=x:=by
 apply zet.1;have:=pk_nat (100*m+((x.toNat / 16:Nat):Int)*10+((x.toNat % 16:Nat):Int)) (by omega);omega
def Pc:∀c (m n),0<=m->Mz m c=(n,0)->0<=n/\yz c.length n=c/\n / 100 ^ c.length=m
 | [],m,n,hm,h=>by
  rw[Mz]at h;have:m=n:=zaq Prod.fst h;subst this;exact⟨hm,rfl,by simp⟩
 | x::r,m,n,hm,h=>by
  rw[Mz]at h;split at h
  .simp_all
  .rename_i hx;obtain⟨h1,h2,h3⟩:=Pc r _ n (by omega) h;refine⟨h1,?_,?_⟩
   .rw[zap,yz,h2,h3,pk_two hm (by omega) (by omega)]
   .rw[zap,←div_pow,h3];omega
def n5{c k}(H:c.length=k)(h:(lI c).2=0):yz k (lI c).1=c:=by
 unfold lI at h ⊢;split at h
 .cases h
 .rename_i h1;rw[zaa h1,←H];exact(Pc c 0 _ (by omega) (Prod.ext rfl h)).2.1
def VP(x):x % 16<=3->UInt8.ofInt ((x.toNat / 16:Nat)*16+((if x % 2==1 then 1 else 0)+if decide (x % 16>=2)then 2 else 0))=x:=
 sX (p:=λx=>x % 16<=3->UInt8.ofInt (((x.toNat / 16:Nat):Int)*16+((if((x % 2)==1)=true then 1 else 0)+(if decide (x % 16>=2)=true then 2 else 0)))=x) (by decide +kernel) x
def Pd{b i n}(h:i+n<=b.length):(cut b i n).length=n:=by simp[cut];omega
def lK b(i m n):cut b i m++cut b (i+m) n=cut b i (m+n):=by
 unfold cut;rw[←zfb,←List.take_add]
def T5{b i}(h:i<b.length):[nth b i]=cut b i 1:=by
 unfold cut;rw[cV h,zdk h];rfl
def cut_all(b):cut b 0 b.length=b:=by simp[cut]
def RE{b}(h:(nB b).2=0):bytesF (nB b).1=b/\cL (nB b).1=0:=by
 unfold nB at h ⊢;split at h;· cases h
 split at h;· cases h
 split at h;· cases h
 split at h;· cases h
 split at h;· omega
 rename_i h1 h2 h3 h4 d;rw[zaa h1,zaa h2,zaa h3,zaa h4,zaa d];have hl:b.length=45:=by omega
 refine⟨?_,by simp_all⟩;have H:Iv b=true:=by simp_all
 unfold Iv at H;simp only[zam,zes,zcc]at H;obtain⟨⟨⟨⟨⟨⟨⟨⟨⟨g,j⟩,k⟩,l⟩,m⟩,o⟩,p⟩,q⟩,r⟩,f⟩:=H;have a:T4 (Jp b)=b.take 44:=by
  have e:∀i n,i+n<=45->(cut b i n).length=n:=λi n h=>Pd (by omega)
  unfold T4 headB;simp only[Jp];rw[n5 (e 0 1 (by omega)) g,n5 (e 1 5 (by omega)) j,n5 (e 23 6 (by omega)) m,n5 (e 29 7 (by omega)) o,n5 (e 36 5 (by omega)) p,n5 (e 41 1 (by omega)) q,n5 (e 42 2 (by omega)) r,
   Kp (e 7 8 (by omega)) (Prod.ext rfl k),Kp (e 15 8 (by omega)) (Prod.ext rfl l)]
  unfold flagF;simp only[];rw[VP _ f,T5 (by omega)];rw[lK b 0 1,lK b 0 (1+5),lK b 0 (1+5+1),lK b 0 (1+5+1+8),lK b 0 (1+5+1+8+8),lK b 0 (1+5+1+8+8+6),lK b 0 (1+5+1+8+8+6+7),lK b 0 (1+5+1+8+8+6+7+5),lK b 0 (1+5+1+8+8+6+7+5+1)];rfl
 unfold bytesF;have c:aaf (b.take 44)=nth b 44:=zfh h3;rw[a,c,T5 (by omega),show b.take 44=cut b 0 44 from rfl,lK b 0 44 1,show 44+1=b.length by omega,cut_all]
def C0(b:List uA)
 | _,0=>[]
 | i,n+1=>if(nB (cut b (i*45) 45)).2=0 then(nB (cut b (i*45) 45)).1::C0 b (i+1) n else C0 b (i+1) n
def Fx(b:List uA):Nat->Nat->List ai
 | _,0=>[]
 | i,n+1=>if(nB (cut b (i*45) 45)).2=0 then Fx b (i+1) n else⟨0,0,i,(nB (cut b (i*45) 45)).2⟩::Fx b (i+1) n
def Pe(b):∀n i:Nat,(C0 b i n).length<=n
 | 0,i=>by simp[C0]
 | n+1,i=>by
  have:=Pe b n (i+1);unfold C0
  grind
def Pf(b):∀n i:Nat,(Fx b i n).length<=n
 | 0,i=>by simp[Fx]
 | n+1,i=>by
  have:=Pf b n (i+1);unfold Fx
  grind
def Ez(b:LQ uA):LQ aa×LQ ai×Int:=
 if b.length % 45≠0 then([],[],2)else if b.length / 45 > 4096 then([],[],5)else(C0 b 0 (b.length / 45),Fx b 0 (b.length / 45),0)
def cut_len b{i}(h:i<b.length / 45):(cut b (i*45) 45).length=45:=by
 simp[cut];omega
def len_mod(b:LQ uA):(Int.tmod (b.length:Int) 45 != 0)=decide (b.length % 45≠0):=by
 rw[zbt,zbo,T3 (by omega)]
 grind
def T6(b:LQ uA):Int.tdiv (b.length:Int) 45=(b.length / 45:Nat):=by
 rw[My (by omega)];omega
def p_All11 b(f:b.length<=100000):rC b=some (Ez b):=by
 unfold rC Ez;rw[len_mod,T6,ae (by decide)];by_cases h1:b.length % 45≠0
 .rw[zab (by simp_all),zab h1]
 .rw[zaa (by simp_all),zaa h1,ae (by omega)];by_cases h2:b.length / 45 > 4096
  .rw[zab (by omega),zab h2]
  .rw[zaa (by grind),zaa h2,ae (by omega)];have:=dM (step:=λst=>qO b st.1 st.2.1 st.2.2.1 st.2.2.2.1 st.2.2.2.2)
    (λst:LQ aa×LQ ai×Int×LQ uA×Bool=>some (st.1++C0 b st.2.2.1.toNat (b.length / 45-st.2.2.1.toNat),st.2.1++Fx b st.2.2.1.toNat (b.length / 45-st.2.2.1.toNat),(0:Int)))
    (λst=>(0<=st.2.2.1/\st.2.2.1<=((b.length / 45:Nat):Int)/\(st.1.length:Int)<=st.2.2.1/\(st.2.1.length:Int)<=st.2.2.1)/\st.2.2.2.1=b.drop (st.2.2.1.toNat*45)/\st.2.2.2.2=false) (λst=>(((b.length / 45:Nat):Int) - st.2.2.1).toNat) (λst a=>by
     obtain⟨out,no,i,c,bad⟩:=st;obtain⟨⟨i0,d,i2,i3⟩,e,H⟩:=a;simp only at i0 d i2 i3 e H ⊢;subst e H;unfold qO;rw[T6];by_cases hi:i<((b.length / 45:Nat):Int)
     .rw[zab (by simp_all),show(45:Int)=((45:Nat):Int)from rfl,F3 _ _ 45 (by rw[zbc];omega),zac];simp only[Pb];rw[RD _ (by rw[cut_len b (by omega)];omega),zac];rw[show b.length / 45-i.toNat=(b.length / 45-(i.toNat+1))+1 by omega];by_cases h:(nB (cut b (i.toNat*45) 45)).2=0
      .rw[zaa (by simp[h]),ae (by grind),ae (by omega)];refine .inr ⟨_,rfl,⟨⟨by grind,by grind,by grind,by grind⟩,by simp only[zfb];grind,rfl⟩,by grind,?_⟩;simp only;rw[show(i+1).toNat=i.toNat+1 from by omega];simp[C0,Fx,h]
      .rw[zab (by simp_all),ae (by grind),ae (by omega)];refine .inr ⟨_,rfl,⟨⟨by grind,by grind,by grind,by grind⟩,by simp only[zfb];grind,rfl⟩,by grind,?_⟩;simp only;rw[show(i+1).toNat=i.toNat+1 from by omega];simp[C0,Fx,h];omega
     .rw[zaa (by simp_all)];refine .inl ⟨_,rfl,?_⟩;rw[show b.length / 45-i.toNat=0 by omega];simp[C0,Fx]) (s:=([],[],0,b,false)) ⟨⟨by simp,by grind,by simp,by simp⟩,by simp,rfl⟩ (by grind)
   rw[this];simp
end Go.Proofs.YtleflofddacmdaaGreatDoor.C11
namespace Go.Proofs.YtleflofddacmdaaGreatDoor.C10
open Go.RowKit Go.Abs
def yA(last:Int)(out:LQ Element)(b:LQ uA):LQ Element×Int:=
 if b.length=0 then(out,0)else if(nth b 0).toNat=0 then([],6)else if(nth b 0).toNat<=last then([],9)
 else if b.length<2∨b.length-2<(nth b 1).toNat then([],2)
 else yA (nth b 0).toNat (out++[⟨ (nth b 0).toNat,(b.drop 2).take (nth b 1).toNat⟩]) (b.drop (2+(nth b 1).toNat))
termination_by b.length
decreasing_by grind
theorem aag(b:LQ uA)(i j):(b.take j).drop i=(b.drop i).take (j-i):=zfl
theorem RF b(H:b.length<=1000000):kH b=some (yA 0 [] b):=by
 unfold kH;have:=dM (step:=λst=>lg st.1 st.2.1 st.2.2) (λst:LQ uA×LQ Element×Int=>some (yA st.2.2 st.2.1 st.1))
  (λst=>st.1.length+st.2.1.length<=1000000) (λst=>st.1.length) (λst h=>by
   obtain⟨b,out,last⟩:=st;simp only at h ⊢;unfold lg;rw[yA];by_cases h0:b.length=0
   .rw[zaa (by simp_all),zab h0];simp_all
   .rw[zab (by grind),zaa h0,ae (by omega)];simp only[show Int.toNat 0=0 from rfl,show Int.toNat 1=1 from rfl];by_cases h1:(nth b 0).toNat=0
    .rw[zab (by simp[h1]),zab h1];simp_all
    .rw[zaa (by grind),zaa h1];by_cases h2:((nth b 0).toNat:Int)<=last
     .rw[zab (by simp_all),zab h2];simp_all
     .rw[zaa (by simp_all),zaa h2,ae (by omega),ae (by grind)];by_cases h3:b.length<2∨b.length-2<(nth b 1).toNat
      .rw[zab (by grind),zab h3];simp_all
      .have ht:(Int.toNat (2+((nth b 1).toNat:Int)))=2+(nth b 1).toNat:=by omega
       rw[zaa (by grind),zaa h3,ae (by omega),ae (by omega),ae (by omega),ht,ae (by grind),ae (by grind),ae (by omega)];refine .inr ⟨_,rfl,by grind,by grind,?_⟩;simp only;rw[show Int.toNat 2=2 from rfl,aag,show 2+(nth b 1).toNat-2=(nth b 1).toNat by omega]) (s:=(b,[],0)) (by omega) (by grind)
 rw[this]
def okL:Int->List Element->Prop
 | _,[]=>True
 | last,x::r=>1<=x.tag/\x.tag<=255/\last<x.tag/\x.value.length<=255/\okL x.tag r
def encL:List Element->List uA
 | []=>[]
 | x::r=>[UInt8.ofInt x.tag,UInt8.ofInt x.value.length]++x.value++encL r
def byte_back{n}(h:0<=n/\n<=255):(UInt8.ofInt n).toNat=n:=by
 have key:∀x:Fin 256,((UInt8.ofInt (x.val:Int)).toNat:Int)=(x.val:Int):=by decide +kernel
 have:=key ⟨n.toNat,by omega⟩
 grind
def aah(x):UInt8.ofInt x.toNat=x:=by
 apply zet.1;have:=byte_back (n:=(x.toNat:Int)) (by have:=x.toNat_lt;omega);omega
theorem Pg:∀n b last out,b.length<=n->0<=last->(yA last out b).2=0->∃l,(yA last out b).1=out++l/\okL last l/\encL l=b
 | n,b,last,out,hn,hl,h=>by
  rw[yA]at h ⊢;by_cases h0:b.length=0
  .rw[zab h0];exact⟨[],by simp,trivial,by rw[List.length_eq_zero_iff]at h0;rw[h0];rfl⟩
  .rw[zaa h0]at h ⊢;split at h;· cases h
   rename_i h1;rw[zaa h1];split at h;· cases h
   rename_i h2;rw[zaa h2];split at h;· cases h
   rename_i h3;rw[zaa h3];obtain⟨n,rfl⟩:∃m,n=m+1:=⟨n-1,by omega⟩;obtain⟨l,e,H,a⟩:=Pg n _ _ _ (by rw[zbc];omega) (by omega) h;have c:=(nth b 0).toNat_lt;have I:=(nth b 1).toNat_lt;have d:((b.drop 2).take (nth b 1).toNat).length=(nth b 1).toNat:=by grind
   refine⟨⟨((nth b 0).toNat:Int),(b.drop 2).take (nth b 1).toNat⟩::l,by rw[e];simp,⟨by grind,by grind,by simp_all,by grind,H⟩,?_⟩;rw[encL,a];simp only[d,aah];have:b=[nth b 0,nth b 1]++((b.drop 2).take (nth b 1).toNat++(b.drop 2).drop (nth b 1).toNat):=by
    rw[zcz,cV (show 0<b.length by omega),cV (show 1<b.length by omega)]
    match b,h3 with
    | x::y::r,_=>rfl
    | [x],h3=>simp at h3
    | [],h3=>simp at h3
   grind
def sX{p:uA->Prop}(h:∀n:Fin 256,p (UInt8.ofNat n.val))(x):p x:=by
 have:=h ⟨x.toNat,x.toNat_lt⟩;simp_all
def Km(x):eX x 4=x / 16:=sX (p:=λx=>eX x 4=x / 16) (by decide +kernel) x
def O4(x:uA):x &&& 15=x % 16:=sX (p:=λx=>x &&& 15=x % 16) (by decide +kernel) x
def VQ:List uA->List uA
 | []=>[]
 | x::r=>if x % 16≠15∨r≠[]then[48+x / 16]++[48+x % 16]++VQ r else[48+x / 16]
def aai(s:LQ uA):LQ uA×Int:=if oV s then(s,0)else([],12)
def Jq(b:LQ uA):= aai (VQ b)
def T7{b:LQ uA}{i}(h0:0<=i)(hi:i<(b.length:Int)):b.drop (i.toNat+1)≠[]↔i<b.length-1:=by
 rw[ne_eq,List.drop_eq_nil_iff];omega
def Ph b(f:b.length<=100000):nj b=some (Jq b):=by
 unfold nj;have:=dM (step:=λst=>nM b st.1 st.2) (λst:LQ uA×Int=>some (aai (st.1++VQ (b.drop st.2.toNat)))) (λst=>0<=st.2/\st.2<=(b.length:Int)/\(st.1.length:Int)<=2*st.2) (λst=>((b.length:Int) - st.2).toNat) (λst a=>by
  obtain⟨s,i⟩:=st;obtain⟨i0,c,i2⟩:=a;simp only at i0 c i2 ⊢;unfold nM;by_cases hi:i<(b.length:Int)
  .rw[zab (by simp_all),ae (by omega),ae (by decide),ae (by grind),ae (by omega),j7 (show i.toNat<b.length by omega),VQ,Km,O4];by_cases H:nth b i.toNat % 16≠15∨b.drop (i.toNat+1)≠[]
   .have r:((nth b i.toNat % 16 != 15) || decide (i<(b.length:Int) - 1))=true:=by
     rw[T7 i0 hi]at H;simp_all
    rw[zab r,zab H,ae (by grind),ae (by omega)]
    grind
   .have r:¬((nth b i.toNat % 16 != 15) || decide (i<(b.length:Int) - 1))=true:=by
     rw[T7 i0 hi]at H;simp_all
    rw[zaa r,zaa H,ae (by omega)];refine .inr ⟨_,rfl,⟨by omega,by omega,by grind⟩,by omega,?_⟩;simp only;have d:b.drop (i.toNat+1)=[]:=zfh λh=>H (.inr h)
    rw[show(i+1).toNat=i.toNat+1 by omega,d];simp[VQ]
  .rw[zaa (by simp_all)];have e:jO s=some (aai s):=by
    unfold jO aai;rw[L8 s (by omega),zac];cases oV s<;>rfl
   rw[e];refine .inl ⟨_,rfl,?_⟩;rw[zbs (by omega)];simp[VQ]) (s:=([],0)) ⟨by simp,by simp,by simp⟩ (by omega)
 rw[this];simp[Jq]
def Fy:Int->List uA->Int
 | n,[]=>n
 | n,x::r=>Fy (n*256+x.toNat) r
def Ix(v:LQ uA):= decide ((v.length:Int)<1) || decide ((v.length:Int) > 6) || nth v 0==0
def pow_le6{k}(h:k<=6):(256:Int) ^ k<=281474976710656:=by
 have:∀j:Fin 7,(256:Int) ^ j.val<=281474976710656:=by decide +kernel
 exact this ⟨k,by omega⟩
theorem iz v(hv:v.length<=100000):dn v=some (if Ix v then(0,false)else(Fy 0 v,true)):=by
 unfold dn Ix;rw[show Int.toNat 0=0 from rfl,ae (by grind)];by_cases h:(((decide ((v.length:Int)<1)) || (decide ((v.length:Int) > 6))) || (nth v 0==0))=true
 .rw[zab h,zab h]
 .rw[zaa h,zaa h];simp at h;have:=dM (step:=λst=>nL v st.1 st.2) (λst:Int×Int=>some (Fy st.1 (v.drop st.2.toNat),true)) (λst=>0<=st.2/\st.2<=(v.length:Int)/\0<=st.1/\st.1<256 ^ st.2.toNat) (λst=>((v.length:Int) - st.2).toNat) (λst H=>by
   obtain⟨n,i⟩:=st;obtain⟨i0,a,i2,i3⟩:=H;simp only at i0 a i2 i3 ⊢;unfold nL;have b:=pow_le6 (k:=i.toNat) (by omega);rw[show(2:Int) ^ Int.toNat 8=256 from rfl];by_cases hi:i<(v.length:Int)
   .have hx:=(nth v i.toNat).toNat_lt;rw[zab (by simp_all),ae (by omega),ae (by refine⟨by omega,by omega,?_,?_⟩<;>omega),ae (by omega),ae (by omega),j7 (show i.toNat<v.length by omega),Fy]
    grind
   .rw[zaa (by simp_all),zbs (by omega)];exact .inl ⟨_,rfl,rfl⟩) (s:=(0,0)) ⟨by simp,by simp,by simp,by simp⟩ (by omega)
  rw[this];rfl
def Z:aa:=⟨0,0,0,[],[],0,0,0,0,false,0,false⟩
def Pj(v:LQ uA):= decide (v.length=1) && decide (1<=(nth v 0).toNat) && decide ((nth v 0).toNat<=3)
def C1(r:aa)(x:Element):=
 if x.tag=4 then if(Jq x.value).2=0 then some { r with a:=(Jq x.value).1 }else none
 else if x.tag=5 then if(Jq x.value).2=0 then some { r with b:=(Jq x.value).1 }else none
 else if x.tag=11 then if Pj x.value then some { r with last:=nth x.value 0 % 2==1,bz:=decide (nth x.value 0>=2) }else none
 else if Ix x.value then none
 else if x.tag=1 then some { r with kind:=Fy 0 x.value }
 else if x.tag=2 then some { r with source:=Fy 0 x.value }
 else if x.tag=3 then some { r with aJ:=Fy 0 x.value }
 else if x.tag=6 then some { r with start:=Fy 0 x.value }
 else if x.tag=7 then some { r with aX:=Fy 0 x.value }
 else if x.tag=8 then some { r with call:=Fy 0 x.value }
 else if x.tag=9 then some { r with part:=Fy 0 x.value }
 else if x.tag=10 then some { r with cN:=Fy 0 x.value }
 else none
def unp_len(b):(Jq b).1.length<=15:=by
 unfold Jq aai;split
 .rename_i h;exact nX h
 .simp
def rN(r:aa):= r.a.length<=15/\r.b.length<=15
def T8:aa->List Element->Option aa
 | r,[]=>some r
 | r,x::l=>match C1 r x with
  | some h=>T8 h l
  | none=>none
def endF(r:aa):= if cL r≠0 then(Z,cL r)else(r,0)
def Fz(ok:Bool)(r:aa)(l:List Element):aa×Int:=if ok then match T8 r l with
 | some h=>endF h
 | none=>(Z,1)else(Z,1)
theorem aaj(r):Fz true r []=endF r:=rfl
def VR{r H x l}(h:C1 r x=some H):Fz true r (x::l)=Fz true H l:=by
 unfold Fz;rw[T8,h]
def VS{r x l}(h:C1 r x=none):Fz true r (x::l)=(Z,1):=by
 unfold Fz;rw[T8,h];rfl
def lL(b:LQ uA):= (nth b 0).toNat*256+(nth b 1).toNat
def Jr(b:LQ uA):=
 if b.length<2∨b.length-2<lL b then(Z,2)else if b.length-2 > lL b then(Z,3)
 else if(yA 0 [] (b.drop 2)).2≠0 then(Z,(yA 0 [] (b.drop 2)).2)else Fz true Z (yA 0 [] (b.drop 2)).1
def T9:∀l last,okL last l->0<=last->∀x,x∈l->1<=x.tag/\x.value.length<=255
 | [],_,_,_,x,hx=>by cases hx
 | a::l,last,h,h0,x,hx=>by
  rcases zao.1 hx with e|e
  .subst e;exact⟨h.1,h.2.2.2.1⟩
  .exact T9 l a.tag h.2.2.2.2 (by have:=h.1;omega) x e
def mkR(t:Int×Int×Int×LQ uA×LQ uA×Int×Int×Int×Int×Bool×Int×Bool):aa:=
 ⟨t.1,t.2.1,t.2.2.1,t.2.2.2.1,t.2.2.2.2.1,t.2.2.2.2.2.1,t.2.2.2.2.2.2.1,t.2.2.2.2.2.2.2.1,t.2.2.2.2.2.2.2.2.1,t.2.2.2.2.2.2.2.2.2.1,t.2.2.2.2.2.2.2.2.2.2.1,t.2.2.2.2.2.2.2.2.2.2.2⟩
def aak(b):(yA 0 [] b).1.length<=b.length:=by
 have key:∀(n:Nat) (b:LQ uA) (last:Int) (out:LQ Element),b.length<=n->(yA last out b).1.length<=out.length+b.length:=by
  intro n
  induction n with
  | zero=>intro b last out hn;rw[yA,zab (by omega)];simp
  | succ n i =>
   intro b last out hn;rw[yA]
   grind
 have:=key _ b 0 [] (zag _);simp_all
def elm_mem{b}(h:(yA 0 [] b).2=0):∀x,x∈(yA 0 [] b).1->1<=x.tag/\x.value.length<=255:=by
 obtain⟨l,e,H,_⟩:=Pg _ b 0 [] (zag _) (by omega) h;rw[zcs]at e;rw[e];exact T9 l 0 H (by omega)
def and1:∀x:uA,(x &&& 1 != 0)=(x % 2==1):=sX (by decide +kernel)
def and2:∀x:uA,x.toNat<=3->(x &&& 2 != 0)=decide (x>=2):=sX (by decide +kernel)
def small_a{r s}(h:rN r)(hs:s.length<=15):rN { r with a:=s }:=⟨hs,h.2⟩
def small_b{r s}(h:rN r)(hs:s.length<=15):rN { r with b:=s }:=⟨h.1,hs⟩
def Fits(r:aa)(x:Element)(ok:Bool)(h:aa):= ok=true/\C1 r x=some h/\rN h∨ok=false/\C1 r x=none
def Pk r x(hx:x.value.length<=100000)(hs:rN r)(hn:x.tag≠1/\x.tag≠2/\x.tag≠3/\x.tag≠6/\x.tag≠7/\x.tag≠8/\x.tag≠9/\x.tag≠10):
  ∃ok c,im x r (x.tag==4 || x.tag==5)=some (ok,c)/\Fits r x ok c:=by
 obtain⟨e,n2,f,g,i,j,k,n⟩:=hn;have hu:=unp_len x.value;unfold im Fits C1;by_cases h4:x.tag=4
 .rw[zab (by simp[h4]),Ph _ hx,zac,zab (by simp[h4]),zab h4];refine⟨_,_,rfl,?_⟩;by_cases b:(Jq x.value).2=0
  .rw[zab b];exact .inl ⟨by simp_all,rfl,small_a hs hu⟩
  simp_all
 rw[zaa h4];by_cases a:x.tag=5
 .rw[zab (by simp[a]),Ph _ hx,zac,zaa (by simp[a]),zab a];refine⟨_,_,rfl,?_⟩;by_cases b:(Jq x.value).2=0
  .rw[zab b];exact .inl ⟨by simp_all,rfl,small_b hs hu⟩
  simp_all
 rw[zaa (by grind),zaa a];by_cases H:x.tag=11
 .rw[zab (by simp_all),zab H,show Int.toNat 0=0 from rfl,ae (by simp_all),ae (by simp_all)];have d:(((((x.value.length:Int) != 1) || (decide (nth x.value 0<1))) || (decide (nth x.value 0 > 3)))=true)↔¬Pj x.value=true:=by
   unfold Pj;have l:(nth x.value 0<1)↔(nth x.value 0).toNat<1:=zde;have a2:(nth x.value 0 > 3)↔3<(nth x.value 0).toNat:=zde
   grind
  by_cases hv:Pj x.value=true
  .rw[zaa (λh=>(d.1 h) hv),zab hv];have h1:x.value.length=1/\(nth x.value 0).toNat<=3:=by
    unfold Pj at hv;simp_all
   rw[ae (by omega),ae (by omega),and1,and2 _ h1.2];exact⟨_,_,rfl,.inl ⟨rfl,rfl,hs⟩⟩
  simp_all
 rw[zaa (by simp_all),zaa H];simp_all
def aal r x(hx:x.value.length<=100000)(hs:rN r):∃ok e,oH x r=some (ok,e)/\Fits r x ok e:=by
 unfold oH;by_cases h1:x.tag=1
 .rw[zab (zds h1),iz _ hx,zac];refine⟨_,_,rfl,?_⟩;unfold Fits C1;rw[zaa (show ¬x.tag=4 by omega),zaa (show ¬x.tag=5 by omega),zaa (show ¬x.tag=11 by omega)];by_cases h:Ix x.value=true
  .rw[zab h,zab h];simp_all
  .rw[zaa h,zaa h,zab h1];exact .inl ⟨rfl,rfl,hs⟩
 rw[zaa (by simp_all)];by_cases h2:x.tag=2
 .rw[zab (zds h2),iz _ hx,zac];refine⟨_,_,rfl,?_⟩;unfold Fits C1;rw[zaa (show ¬x.tag=4 by omega),zaa (show ¬x.tag=5 by omega),zaa (show ¬x.tag=11 by omega)];by_cases h:Ix x.value=true
  .rw[zab h,zab h];simp_all
  .rw[zaa h,zaa h,zaa h1,zab h2];exact .inl ⟨rfl,rfl,hs⟩
 rw[zaa (by simp_all)];by_cases h3:x.tag=3
 .rw[zab (zds h3),iz _ hx,zac];refine⟨_,_,rfl,?_⟩;unfold Fits C1;rw[zaa (show ¬x.tag=4 by omega),zaa (show ¬x.tag=5 by omega),zaa (show ¬x.tag=11 by omega)];by_cases h:Ix x.value=true
  .rw[zab h,zab h];simp_all
  .rw[zaa h,zaa h,zaa h1,zaa h2,zab h3];exact .inl ⟨rfl,rfl,hs⟩
 rw[zaa (by simp_all)];by_cases H:x.tag=6
 .rw[zab (zds H),iz _ hx,zac];refine⟨_,_,rfl,?_⟩;unfold Fits C1;rw[zaa (show ¬x.tag=4 by omega),zaa (show ¬x.tag=5 by omega),zaa (show ¬x.tag=11 by omega)];by_cases h:Ix x.value=true
  .rw[zab h,zab h];simp_all
  .rw[zaa h,zaa h,zaa h1,zaa h2,zaa h3,zab H];exact .inl ⟨rfl,rfl,hs⟩
 rw[zaa (by simp_all)];by_cases b:x.tag=7
 .rw[zab (zds b),iz _ hx,zac];refine⟨_,_,rfl,?_⟩;unfold Fits C1;rw[zaa (show ¬x.tag=4 by omega),zaa (show ¬x.tag=5 by omega),zaa (show ¬x.tag=11 by omega)];by_cases h:Ix x.value=true
  .rw[zab h,zab h];simp_all
  .rw[zaa h,zaa h,zaa h1,zaa h2,zaa h3,zaa H,zab b];exact .inl ⟨rfl,rfl,hs⟩
 rw[zaa (by simp_all)];by_cases c:x.tag=8
 .rw[zab (zds c),iz _ hx,zac];refine⟨_,_,rfl,?_⟩;unfold Fits C1;rw[zaa (show ¬x.tag=4 by omega),zaa (show ¬x.tag=5 by omega),zaa (show ¬x.tag=11 by omega)];by_cases h:Ix x.value=true
  .rw[zab h,zab h];simp_all
  .rw[zaa h,zaa h,zaa h1,zaa h2,zaa h3,zaa H,zaa b,zab c];exact .inl ⟨rfl,rfl,hs⟩
 rw[zaa (by simp_all)];by_cases d:x.tag=9
 .rw[zab (zds d),iz _ hx,zac];refine⟨_,_,rfl,?_⟩;unfold Fits C1;rw[zaa (show ¬x.tag=4 by omega),zaa (show ¬x.tag=5 by omega),zaa (show ¬x.tag=11 by omega)];by_cases h:Ix x.value=true
  .rw[zab h,zab h];simp_all
  .rw[zaa h,zaa h,zaa h1,zaa h2,zaa h3,zaa H,zaa b,zaa c,zab d];exact .inl ⟨rfl,rfl,hs⟩
 rw[zaa (by simp_all)];by_cases a:x.tag=10
 .rw[zab (zds a),iz _ hx,zac];refine⟨_,_,rfl,?_⟩;unfold Fits C1;rw[zaa (show ¬x.tag=4 by omega),zaa (show ¬x.tag=5 by omega),zaa (show ¬x.tag=11 by omega)];by_cases h:Ix x.value=true
  .rw[zab h,zab h];simp_all
  .rw[zaa h,zaa h,zaa h1,zaa h2,zaa h3,zaa H,zaa b,zaa c,zaa d,zab a];exact .inl ⟨rfl,rfl,hs⟩
 rw[zaa (by simp_all)];have f:=Pk r x hx hs ⟨h1,h2,h3,H,b,c,d,a⟩
 grind
def Ua b(h:b.length<=100000):mR b=some (if b.length<2∨b.length-2<lL b then(0,2)else(((2+lL b:Nat):Int),0)):=by
 have hx:=(nth b 0).toNat_lt;have hy:=(nth b 1).toNat_lt;unfold mR lL;simp only[show Int.toNat 0=0 from rfl,show Int.toNat 1=1 from rfl,show(2:Int) ^ Int.toNat 8=256 from rfl];by_cases h1:b.length<2
 .rw[zab (by grind),zab (.inl h1)]
 .rw[zaa (by grind),ae (by omega),ae (by refine⟨by omega,by omega,?_,?_⟩<;>omega),ae (by omega),ae (by omega),ae (by omega)]
  grind
def aam y(hl:y.1.length<=1000000)(hm:∀x,x∈y.1->1<=x.tag/\x.value.length<=255):
  loop (λs=>jP y s.1 s.2.1 s.2.2.1 s.2.2.2.1 s.2.2.2.2.1 s.2.2.2.2.2.1 s.2.2.2.2.2.2.1 s.2.2.2.2.2.2.2.1 s.2.2.2.2.2.2.2.2.1 s.2.2.2.2.2.2.2.2.2.1 s.2.2.2.2.2.2.2.2.2.2.1 s.2.2.2.2.2.2.2.2.2.2.2.1 s.2.2.2.2.2.2.2.2.2.2.2.2) (0,0,0,0,[],[],0,0,0,0,false,0,false)=some (Fz true Z y.1):=by
 have:=dM (step:=λs:Int×Int×Int×Int×LQ uA×LQ uA×Int×Int×Int×Int×Bool×Int×Bool=>jP y s.1 s.2.1 s.2.2.1 s.2.2.2.1 s.2.2.2.2.1 s.2.2.2.2.2.1 s.2.2.2.2.2.2.1 s.2.2.2.2.2.2.2.1 s.2.2.2.2.2.2.2.2.1 s.2.2.2.2.2.2.2.2.2.1 s.2.2.2.2.2.2.2.2.2.2.1 s.2.2.2.2.2.2.2.2.2.2.2.1 s.2.2.2.2.2.2.2.2.2.2.2.2)
  (λs=>some (Fz true (mkR s.2) (y.1.drop s.1.toNat))) (λs=>0<=s.1/\s.1<=(y.1.length:Int)/\rN (mkR s.2)) (λs=>((y.1.length:Int) - s.1).toNat) (λs H=>by
   obtain⟨i,s⟩:=s;obtain⟨i0,c,i2⟩:=H;simp only at i0 c i2 ⊢;unfold jP;have h:(⟨s.1,s.2.1,s.2.2.1,s.2.2.2.1,s.2.2.2.2.1,s.2.2.2.2.2.1,s.2.2.2.2.2.2.1,s.2.2.2.2.2.2.2.1,s.2.2.2.2.2.2.2.2.1,s.2.2.2.2.2.2.2.2.2.1,s.2.2.2.2.2.2.2.2.2.2.1,s.2.2.2.2.2.2.2.2.2.2.2⟩:aa)=mkR s:=rfl;rw[h];by_cases hi:i<(y.1.length:Int)
   .have hx:=hm (nth y.1 i.toNat) (by rw[cV (show i.toNat<y.1.length by omega)];simp_all);obtain⟨o,r,e,d⟩:=aal (mkR s) (nth y.1 i.toNat) (by omega) i2;rw[zab (by simp_all),ae (by omega),e,zac,j7 (show i.toNat<y.1.length by omega)];rcases d with⟨o1,o2,f⟩|⟨o1,o2⟩
    .subst o1;rw[zaa (by simp),ae (by omega)];refine .inr ⟨_,rfl,⟨by omega,by omega,f⟩,by omega,?_⟩;simp only;rw[show(i+1).toNat=i.toNat+1 by omega];have E:mkR (r.source,r.aJ,r.kind,r.a,r.b,r.start,r.aX,r.call,r.part,r.last,r.cN,r.bz)=r:=rfl;rw[E,VR o2]
    .subst o1;rw[zab (by simp),VS o2];exact .inl ⟨_,rfl,rfl⟩
   .rw[zaa (by simp_all),zbs (by omega)];unfold nN;rw[h,yp (mkR s) (by have:=i2.1;omega) (by have:=i2.2;omega),zac,aaj];unfold endF;by_cases g:cL (mkR s)≠0
    .rw[zab (by simp_all),zab g];exact .inl ⟨_,rfl,rfl⟩
    simp_all) (s:=(0,0,0,0,[],[],0,0,0,0,false,0,false)) ⟨by simp,by simp,by simp[rN,mkR]⟩ (by omega)
 exact this
def VT b(h:b.length<=100000):nm b=some (Jr b):=by
 have bad:∀e:Int,e≠0->fc b e=some (Z,e):=λe H=>by
  unfold fc;rw[zab (by simp_all)];rfl
 unfold nm Jr;rw[Ua b h,zac];by_cases h1:b.length<2∨b.length-2<lL b
 .rw[zab h1,zab h1,zaa (by simp)];simp_all
 .rw[zaa h1,zaa h1];by_cases h2:b.length-2 > lL b
  .rw[zab h2,zab (by grind)];simp_all
  .rw[zaa h2,zaa (by grind)];unfold fc;rw[zaa (by simp),ae (by omega),show Int.toNat 2=2 from rfl,RF _ (by grind),zac];by_cases h3:(yA 0 [] (b.drop 2)).2≠0
   .rw[zab (by simp_all),zab h3];rfl
   .rw[zaa (by simp_all),zaa h3];exact aam _ (by have:=aak (b.drop 2);rw[zbc]at this;omega) (elm_mem (by omega))
def C2(i:Nat)(out:LQ aa)(no:LQ ai)(b:LQ uA):LQ aa×LQ ai×Int:=
 if b.length=0 then(out,no,0)else if i=4096 then([],[],5)else if b.length<2∨b.length-2<lL b then([],[],2)
 else if(Jr (b.take (2+lL b))).2≠0 then C2 (i+1) out (no++[⟨0,0,i,(Jr (b.take (2+lL b))).2⟩]) (b.drop (2+lL b))
 else C2 (i+1) (out++[(Jr (b.take (2+lL b))).1]) no (b.drop (2+lL b))
termination_by b.length
decreasing_by all_goals (simp;omega)
def aan:∀n b i out no,b.length<=n->(C2 i out no b).1.length<=out.length+n/\(C2 i out no b).2.1.length<=no.length+n:=by
 intro n
 induction n with
 | zero=>intro b i out no h;rw[C2,zab (by omega)];simp
 | succ n H =>
  intro b i out no h;rw[C2]
  grind
def p_tAll b(h:b.length<=100000):rA b=some (C2 0 [] [] b):=by
 unfold rA;have:=dM (step:=λs=>qN s.1 s.2.1 s.2.2.1 s.2.2.2) (λs:LQ uA×LQ aa×LQ ai×Int=>some (C2 s.2.2.2.toNat s.2.1 s.2.2.1 s.1))
  (λs=>0<=s.2.2.2/\s.2.2.2<=4096/\(s.2.1.length:Int)<=s.2.2.2/\(s.2.2.1.length:Int)<=s.2.2.2/\s.1.length<=100000) (λs=>s.1.length) (λs H=>by
   obtain⟨b,out,no,i⟩:=s;obtain⟨i0,a,i2,i3,i4⟩:=H;simp only at i0 a i2 i3 i4 ⊢;unfold qN;rw[C2];by_cases h0:b.length=0
   .rw[zaa (show ¬decide ((b.length:Int) > 0)=true by simp_all),zab h0];exact .inl ⟨_,rfl,rfl⟩
   .rw[zab (show decide ((b.length:Int) > 0)=true by grind),zaa h0];by_cases h1:i=4096
    .rw[zab (show(i==4096)=true by simp_all),zab (show i.toNat=4096 by omega)];simp_all
    .rw[zaa (show ¬(i==4096)=true by simp_all),zaa (show ¬i.toNat=4096 by omega),Ua b i4,zac];by_cases h2:b.length<2∨b.length-2<lL b
     .rw[zab h2,zab (by simp),zab h2];simp_all
     .rw[zaa h2,zaa (by simp),zaa h2,ae (by omega),show(((2+lL b:Nat):Int)).toNat=2+lL b from rfl,VT _ (by grind),zac];by_cases h3:(Jr (b.take (2+lL b))).2≠0
      .rw[zab (by simp_all),zab h3,ae (by grind)];unfold j8;rw[ae (by omega),ae (by omega),show(((2+lL b:Nat):Int)).toNat=2+lL b from rfl]
       grind
      .rw[zaa (by simp_all),zaa h3,ae (by grind)];unfold j8;rw[ae (by omega),ae (by omega),show(((2+lL b:Nat):Int)).toNat=2+lL b from rfl]
       grind) (s:=(b,[],[],0)) ⟨by simp,by simp,by simp,by simp,h⟩ (by grind)
 exact this
end Go.Proofs.YtleflofddacmdaaGreatDoor.C10
namespace Go.Proofs.YtleflofddacmdaaGreatDoor.C9
open Go.RowKit Go.Abs
def free(c:uA)(a:LQ uA):= ∀x,x∈a->x≠c
def iA(c:uA):List uA->List (List uA)
 | []=>[[]]
 | x::r=>if x=c then[]::iA c r else(x::(iA c r).headD [])::(iA c r).tail
def C3 c(s):iA c s=(iA c s).headD []::(iA c s).tail:=by
 cases s with
 | nil=>rfl
 | cons x r=>unfold iA;split<;>rfl
def cutL_ne c(s):iA c s≠[]:=by rw[C3];simp
def C4{c r}:iA c (c::r)=[]::iA c r:=by simp[iA]
def yZ{c x r}(h:x≠c):iA c (x::r)=(x::(iA c r).headD [])::(iA c r).tail:=by simp[iA,h]
def EA{c}:∀{a},free c a->∀r,iA c (a++r)=(a++(iA c r).headD [])::(iA c r).tail
 | [],_,r=>C3 c r
 | x::a,h,r=>by
  rw[List.cons_append,yZ (h x (by simp)),EA (λy hy=>h y (by simp[hy])) r];rfl
def VU{c a}(h:free c a):iA c a=[a]:=by
 have:=EA h [];simpa[iA] using this
def VV{c a r}(h:free c a):iA c (a++c::r)=a::iA c r:=by
 rw[EA h,C4];simp
def Pm(c):∀s:LQ uA,(iA c s).length<=s.length+1
 | []=>by simp[iA]
 | x::r=>by
  have:=Pm c r;unfold iA
  grind
def cutL_hd{c r}:(iA c r).headD []∈iA c r:=by
 cases h:iA c r with
 | nil=>exact absurd h (cutL_ne c r)
 | cons a b=>simp
def yB(c):∀(s w),w∈iA c s->free c w/\w.length<=s.length
 | [],w,h=>by
  simp[iA]at h;subst h;exact⟨λx hx=>(by simp at hx),zag _⟩
 | x::r,w,h=>by
  by_cases hx:x=c
  .subst hx;rw[C4]at h;rcases zao.1 h with rfl|h
   .exact⟨λy hy=>(by simp at hy),by simp⟩
   .have:=yB x r w h
    grind
  .rw[yZ hx]at h;rcases zao.1 h with rfl|h
   .have h0:=yB c r ((iA c r).headD []) cutL_hd;refine⟨λy hy=>?_,by simp_all⟩;rcases zao.1 hy with rfl|hy
    .exact hx
    .exact h0.1 y hy
   .have h0:=yB c r w (by rw[C3 c r];simp[h])
    grind
def Kr{c}:∀t:LQ uA,iA c (t++[c])=iA c t++[[]]
 | []=>by simp[iA]
 | x::r=>by
  have i:=Kr (c:=c) r;by_cases hx:x=c
  .subst hx;rw[List.cons_append,C4,C4,i];rfl
  .rw[List.cons_append,yZ hx,yZ hx,i,C3 c r];rfl
def MB{c}{s:LQ uA}{i}(h:∀j,j<i->s[j]?≠some c):free c (s.take i):=by
 intro x hx H;subst H;obtain⟨j,a,rfl⟩:=List.getElem_of_mem hx;rw[zaw]at a;exact h j (by omega) (by rw[List.getElem_take,zaf (by omega)])
def RG{s c j}:Go.Lib.occAt s [c] j=true↔s[j]?=some c:=by
 constructor
 .exact Go.Lib.occAt_head rfl
 .intro h;obtain⟨H,a⟩:=zad.1 h;unfold Go.Lib.occAt;rw[zdk H,a];simp
def RI(c):∀n s,s.length<=n->Go.Lib.splitK [c] 0 (Go.Lib.count s [c]) s=iA c s:=by
 intro n
 induction n with
 | zero =>
  intro s hs;have:s=[]:=by simp_all
  subst this;rw[Go.Lib.count_miss (by rfl)];rfl
 | succ n e =>
  intro s hs;rcases Go.Lib.index_spec s [c]with⟨h1,h2⟩|⟨i,h1,h2,h3,h4⟩
  .rw[Go.Lib.count_miss h1];have a:free c s:=by
    intro x hx H;subst H;obtain⟨j,b,H⟩:=List.getElem_of_mem hx;have:=h2 j (by omega);rw[RG.2 (by rw[zaf b,H])]at this;cases this
   rw[VU a];rfl
  .have hi:=RG.1 h3;obtain⟨f,H⟩:=zad.1 hi;rw[Go.Lib.count_hit (by simp) h1,zfi 1,Go.Lib.splitK,h1];have hm:¬(((i:Int)==-1)=true):=by rw[zes];omega
   rw[zaa hm];simp only[zcl,zct,zcm];rw[e _ (by grind)];have d:s=s.take i++c::s.drop (i+1):=by
    have:=zcz i s;rw[zdk f,H]at this;simp_all
   have a:free c (s.take i):=MB (λj b h=>by
    have:=h4 j b;rw[RG.2 h]at this;cases this)
   conv=>rhs;rw[d,VV a]
def Ks s(c):Go.Lib.split s [c]=iA c s:=RI c _ s (zag _)
def MC(c:uA):= decide (48<=c) && decide (c<=57)
def dgv(c:uA):Int:=c.toNat-48
def Iy{c}:MC c=true↔48<=c.toNat/\c.toNat<=57:=by
 simp only[MC,zam,zcc];exact⟨λh=>⟨h.1,h.2⟩,λh=>⟨h.1,h.2⟩⟩
def pT(n:Int):List uA->Int
 | []=>n
 | c::r=>pT (n*10+dgv c) r
def F4(s:LQ uA):= s.all MC && decide (1<=s.length) && decide (s.length<=15) && !(decide (s.headD 0=48) && decide (1<s.length))
def qF(s:LQ uA):= if F4 s then(pT 0 s,true)else(0,false)
def isDg_no{c}(h:MC c=false):c.toNat<48∨57<c.toNat:=by
 have:¬(48<=c.toNat/\c.toNat<=57):=λH=>by rw[Iy.2 H]at h;cases h
 omega
def pow15{k}(h:k<=15):(10:Int) ^ k<=1000000000000000:=by
 have h2:(10:Int) ^ k<=10 ^ 15:=by exact_mod_cast Nat.pow_le_pow_right (by decide) h
 have h3:(10:Int) ^ 15=1000000000000000:=by decide
 omega
def vOK_eq{s}:F4 s=(s.all MC && !(decide ((s.length:Int)<1) || decide ((s.length:Int) > 15) || decide (s.headD 0=48) && decide ((s.length:Int) > 1))):=by
 unfold F4;rw[zbt]
 grind
def Iz{s:LQ uA}:nth s 0=s.headD 0:=by
 cases s with
 | nil=>rfl
 | cons a t=>rfl
theorem wrap_small{k n}(h0:0<=n)(h1:n<=100)(hk:k=.i32∨k=.i64):IntKind.wrap k n=n:=by
 rcases hk with rfl|rfl<;>(unfold IntKind.wrap;simp[IntKind.signed,IntKind.bits];omega)
def VW(s):kI s=some (qF s):=by
 unfold kI;simp only[show Int.toNat 0=0 from rfl];have b:s=[]↔(s.length:Int)<1:=by
  cases s with
  | nil=>simp
  | cons a t=>grind
 rw[ae (λh=>by
  grind)]
 rw[Iz];unfold qF;rw[vOK_eq];have g:(s==([]:LQ uA) || decide ((s.length:Int) > 15) || (s.headD 0==48 && s != ([48]:LQ uA)))=(decide ((s.length:Int)<1) || decide ((s.length:Int) > 15) || (decide (s.headD 0=48) && decide ((s.length:Int) > 1))):=by
  cases s with
  | nil=>rfl
  | cons a t =>
   grind
 rw[g];by_cases c:(decide ((s.length:Int)<1) || decide ((s.length:Int) > 15) || (decide (s.headD 0=48) && decide ((s.length:Int) > 1)))=true
 .rw[zab c,zaa (by rw[c];simp)]
 .rw[zaa c];have r:(decide ((s.length:Int)<1) || decide ((s.length:Int) > 15) || (decide (s.headD 0=48) && decide ((s.length:Int) > 1)))=false:=by simp_all
  rw[r];simp only[zgb,zdn]at r;have:=dM (step:=λst=>lh s st.1 st.2) (λst:Int×Nat=>some (if(s.drop st.2).all MC=true then(pT st.1 (s.drop st.2),true)else((0:Int),false)))
   (λst=>st.2<=s.length/\0<=st.1/\st.1<10 ^ st.2) (λst=>s.length-st.2) (λst i=>by
    obtain⟨n,p⟩:=st;obtain⟨j,i2,i3⟩:=i;simp only at j i2 i3 ⊢;have m:=pow15 (k:=p) (by omega);unfold lh;by_cases hi:p<s.length
    .rw[zab (by simp_all),ae hi];rw[j7 hi];by_cases d:(nth s p).toNat<128
     .have f:=KP hi d;have hn:zN s p=p+1:=by unfold zN;rw[zab hi,f]
      rw[f,hn];simp only;cases H:MC (nth s p)with
      | false =>
       have l:=isDg_no H;rw[zab (by grind)];simp_all
      | true =>
       have l:=Iy.1 H;rw[zaa (by grind)];rw[wrap_small (k:=.i32) (by omega) (by omega) (.inl rfl),wrap_small (k:=.i64) (by omega) (by omega) (.inr rfl)];rw[ae (by omega),ae (by omega)];refine .inr ⟨_,rfl,⟨by omega,by omega,?_⟩,by omega,?_⟩
       .grind
       .simp only;have e:10*n+(((nth s p).toNat:Int) - 48)=n*10+dgv (nth s p):=by unfold dgv;omega
        rw[e];simp[H,pT]
     .have f:=Ng hi (by omega);have H:MC (nth s p)=false:=by
       cases H:MC (nth s p)with
       | false=>rfl
       | true=>have:=Iy.1 H;omega
      rw[zab (by grind)];simp_all
    .rw[zaa (by simp_all)];refine .inl ⟨_,rfl,?_⟩;rw[zbs (by omega)];simp[pT]) (s:=(0,0)) ⟨by simp,by simp,by simp⟩ (by omega)
  rw[this];simp
def pre(a:LQ uA)(l:LQ (LQ uA)):= (a++l.headD [])::l.tail
abbrev PART:LQ uA:=[112,97,114,116]
abbrev LAST:LQ uA:=[108,97,115,116]
abbrev INW:LQ uA:=[105,110]
abbrev aao:LQ uA:=[111,117,116]
def sY(s:LQ uA):Int:=if s=[118]then 1 else if s=[116]then 2 else if s=[100]then 3 else if s=[99]then 4 else 0
def iL:List (List uA)->Option (Int×Bool)
 | []=>some (0,false)
 | [d,t]=>if(d=INW∨d=aao)/\F4 t=true then some (pT 0 t,decide (d=INW))else none
 | _=>none
def Pn:List (List uA)->Option (Bool×Int×Bool)
 | []=>(iL []).map λt=>(false,t.1,t.2)
 | l::r=>if l=LAST then(iL r).map λt=>(true,t.1,t.2)else(iL (l::r)).map λt=>(false,t.1,t.2)
def Ad:List (List uA)->Option (Int×Int×Bool×Int×Bool)
 | p::c::q::r=>if p=PART then if F4 c=true/\F4 q=true then(Pn r).map λt=>(pT 0 c,pT 0 q,t.1,t.2.1,t.2.2)else none else(iL (p::c::q::r)).map λt=>(0,0,false,t.1,t.2)
 | w=>(iL w).map λt=>(0,0,false,t.1,t.2)
def bF(b:LQ uA):= if b=[45]then[]else b
def EB:List (List uA)->Option aa
 | k::s1::s2::a::b::t::u::rest =>
  if 0<sY k/\F4 s1=true/\F4 s2=true/\a≠[]/\b≠[]/\F4 t=true/\F4 u=true then
   (Ad rest).map λx=>⟨pT 0 s1,pT 0 s2,sY k,a,bF b,pT 0 t,pT 0 u,x.1,x.2.1,x.2.2.1,x.2.2.2.1,x.2.2.2.2⟩
  else none
 | _=>none
def Z:aa:=⟨0,0,0,[],[],0,0,0,0,false,0,false⟩
def fin(line:LQ uA)(x:aa):= if cL x≠0 then(Z,cL x)else if z8 x≠line then(Z,1)else(x,0)
def FA(line:List uA):aa×Int:=match EB (iA 32 line)with
 | none=>(Z,1)
 | some x=>fin line x
def po(r:az):List uA×az:=match r.words with
 | []=>([],⟨[],true⟩)
 | x::t=>if x=[]then([],⟨x::t,true⟩)else(x,⟨t,r.bad⟩)
def j4(r:az):Int×az:=((qF (po r).1).1,⟨(po r).2.words,(po r).2.bad || !(qF (po r).1).2⟩)
def nd(s:List uA)(r:az):= match r.words with
 | []=>(false,r)
 | x::t=>if x=s then(true,⟨t,r.bad⟩)else(false,r)
theorem aap(r):dx r=some (po r):=by
 obtain⟨w,b⟩:=r;unfold dx po;cases w with
 | nil=>rfl
 | cons x t =>
  simp only[show Int.toNat 0=0 from rfl,show Int.toNat 1=1 from rfl];rw[ae (λ_=>by simp<;>omega)];have e:nth (x::t) 0=x:=rfl;rw[e];by_cases hx:x=[]
  .rw[zab (by simp[hx]),zab hx]
  .rw[zaa (by simp[hx]<;>omega),zaa hx,ae (by simp<;>omega),ae (by simp<;>omega)];rfl
theorem iz(r):bw r=some (j4 r):=by
 unfold bw;rw[aap,zac,VW,zac];rfl
def aaq s(r):dy s r=some (nd s r):=by
 obtain⟨w,b⟩:=r;unfold dy nd;cases w with
 | nil=>rfl
 | cons x t =>
  simp only[show Int.toNat 0=0 from rfl,show Int.toNat 1=1 from rfl];rw[ae (λ_=>by simp<;>omega)];have e:nth (x::t) 0=x:=rfl;rw[e];by_cases hx:x=s
  .rw[zaa (by simp[hx]<;>omega),zab hx,ae (by simp<;>omega)];rfl
  simp_all
def vz{r}(h:r.bad=true):(po r).2.bad=true:=by
 unfold po
 grind
def cA{r}(h:r.bad=true):(j4 r).2.bad=true:=by
 unfold j4;simp[vz h]
theorem MD:F4 []=false:=rfl
def wK{x t b}(hx:x≠[]):po ⟨x::t,b⟩=(x,⟨t,b⟩):=by unfold po;simp[hx]
def iB{x t b}(hx:x≠[]):j4 ⟨x::t,b⟩=((qF x).1,⟨t,b || !F4 x⟩):=by
 unfold j4;rw[wK hx];unfold qF;cases F4 x<;>rfl
theorem IA{b}:(po ⟨[],b⟩).2.bad=true:=rfl
theorem yC{t b}:(po ⟨[]::t,b⟩).2.bad=true:=rfl
theorem j5{b}:(j4 ⟨[],b⟩).2.bad=true:=rfl
theorem gC{t b}:(j4 ⟨[]::t,b⟩).2.bad=true:=rfl
def ME{x}(h:F4 x=true):x≠[]:=by rintro rfl;cases h
def lM{x}(h:F4 x=true):(qF x).1=pT 0 x:=by unfold qF;rw[zab h]
section decode
variable {v0:LQ uA}{y2:LQ uA×az}{y3:Int}{y4 y5:Int×az}{y6:LQ uA×az}{y8 y9:Int×az}{b:LQ uA}
def KB(y2:LQ uA×az)(y3:Int):= (y2.1.length:Int) != 1 || 1+y3==0
def p_j3(ha:y6.1.length<1000000000)(e:b.length<1000000000){c p l ws bad tr i}:
  dX v0 y2 y3 y4 y5 y6 y8 y9 b c p l ws bad tr i=some (if bad=true∨KB y2 y3=true∨ws≠[]then(Z,1)else fin v0 ⟨y4.1,y5.1,1+y3,y6.1,b,y8.1,y9.1,c,p,l,tr,i⟩):=by
 unfold dX;have d:(decide ((ws.length:Int) > 0))=true↔ws≠[]:=by
  cases ws with
  | nil=>simp
  | cons a t=>simp<;>omega
 by_cases h:bad=true∨KB y2 y3=true∨ws≠[]
 .rw[zab h,zab]
  .rfl
  .simp only[KB,zcj]at h ⊢;rw[d];rcases h with h|(h|h)|h<;>simp[h]
 .rw[zaa h,zaa]
  .rw[yp _ ha e];simp only[zac];generalize hx:(⟨y4.1,y5.1,1+y3,y6.1,b,y8.1,y9.1,c,p,l,tr,i⟩:aa)=x;unfold iU fin;by_cases H:cL x=0
   .rw[zab H,H];by_cases hl:z8 x=v0
    .rw[zaa (by simp[hl]),zaa (by simp),zaa (by simp),zaa (by simp[hl])];simp_all
    .rw[zab (by simp[hl]),zab (by simp),zaa (by simp),zab hl];rfl
   .rw[zaa H,zaa (by simp[H]),zab (by simp_all),zab H];rfl
  .simp only[not_or]at h;obtain⟨h1,h2,h3⟩:=h;simp only[KB,zcj,not_or]at h2 ⊢;rw[d];simp_all
def zD(bad:Bool)(k:Bool)(o:Option aa)(line:List uA):= if bad=true∨k=true then(Z,1)else match o with
 | none=>(Z,1)
 | some x=>fin line x
def p_j2(ha:y6.1.length<1000000000)(H:b.length<1000000000){c p l ws bad}:
  gg v0 y2 y3 y4 y5 y6 y8 y9 b ws bad c p l=some (zD bad (KB y2 y3) ((iL ws).map λt=>⟨y4.1,y5.1,1+y3,y6.1,b,y8.1,y9.1,c,p,l,t.1,t.2⟩) v0):=by
 unfold gg;simp only[aaq,iz,zac];have key:∀(d:LQ uA) (t:LQ (LQ uA)) (i:Bool),(d=INW∨d=aao)->i=decide (d=INW) ->
   dX v0 y2 y3 y4 y5 y6 y8 y9 b c p l (j4 ⟨t,bad⟩).2.words (j4 ⟨t,bad⟩).2.bad (j4 ⟨t,bad⟩).1 i=some (zD bad (KB y2 y3) ((iL (d::t)).map λt=>⟨y4.1,y5.1,1+y3,y6.1,b,y8.1,y9.1,c,p,l,t.1,t.2⟩) v0):=by
  intro d t i a h;rw[p_j3 ha H];unfold zD;cases t with
  | nil =>
   rw[zab (.inl j5)];simp[iL]
  | cons n t2 =>
   by_cases hn:n=[]
   .subst hn;rw[zab (.inl gC)];cases t2 with
    | nil=>simp[iL,MD]
    | cons e t3=>simp[iL]
   .rw[iB hn];simp only;cases t2 with
    | cons e t3 =>
     rw[zab (.inr (.inr (by simp)))];simp[iL]
    | nil =>
     cases hv:F4 n with
     | false =>
      rw[zab (.inl (by simp))];simp[iL,hv]
     | true =>
      simp only[zeq,zea,ne_eq,zbw,or_false,iL,a,hv,and_self,zce,Option.map_some,lM hv,h]
 cases ws with
 | nil =>
  simp only[nd];simp only[zay,zbq];rw[p_j3 ha H];simp[zD,iL]
 | cons x t =>
  by_cases h1:x=INW
  .have e:nd INW ⟨x::t,bad⟩=(true,⟨t,bad⟩):=by simp[nd,h1]
   rw[e]
   grind
  .have e:nd INW ⟨x::t,bad⟩=(false,⟨x::t,bad⟩):=by simp[nd,h1]
   rw[e];simp only[zay,zbq];by_cases h2:x=aao
   .have e:nd aao ⟨x::t,bad⟩=(true,⟨t,bad⟩):=by simp[nd,h2]
    rw[e]
    grind
   .have e:nd aao ⟨x::t,bad⟩=(false,⟨x::t,bad⟩):=by simp[nd,h2]
    rw[e];simp only[zay,zbq];rw[p_j3 ha H,zab (.inr (.inr (by simp)))];have:iL (x::t)=none:=by
     unfold iL
     grind
    rw[this];simp[zD]
end decode
def vA{k o line}:zD true k o line=(Z,1):=by unfold zD;rw[zab (.inl rfl)]
def vB{bad k line}:zD bad k none line=(Z,1):=by unfold zD;split<;>rfl
section decode
variable {v0:LQ uA}{y2:LQ uA×az}{y3:Int}{y4 y5:Int×az}{y6:LQ uA×az}{y8 y9:Int×az}{b:LQ uA}
def p_j1(ha:y6.1.length<1000000000)(H:b.length<1000000000):
  dY v0 y2 y3 y4 y5 y6 y8 y9 b=some (zD y9.2.bad (KB y2 y3) ((Ad y9.2.words).map λt=>⟨y4.1,y5.1,1+y3,y6.1,b,y8.1,y9.1,t.1,t.2.1,t.2.2.1,t.2.2.2.1,t.2.2.2.2⟩) v0):=by
 unfold dY;simp only[aaq,iz,zac];obtain⟨u,⟨i,bad⟩⟩:=y9;simp only;cases i with
 | nil =>
  simp only[nd,zay,zbq];rw[p_j2 ha H];rfl
 | cons x t =>
  by_cases h1:x=PART
  .have e:nd PART ⟨x::t,bad⟩=(true,⟨t,bad⟩):=by simp[nd,h1]
   rw[e];simp only[zce];rw[p_j2 ha H];have P:∀(r:az),r.bad=true->(nd LAST r).2.bad=true:=by
    rintro⟨w,bb⟩ d;cases w with
    | nil=>exact d
    | cons a w=>by_cases j:a=LAST<;>simpa[nd,j] using d
   cases t with
   | nil =>
    rw[P _ (cA j5),vA];rw[show Ad [x]=none from by rw[h1];rfl,Option.map_none,vB]
   | cons c t2 =>
    cases t2 with
    | nil =>
     have:(j4 (j4 ⟨[c],bad⟩).2).2.bad=true:=by
      by_cases h:c=[]
      .subst h;exact cA gC
      .rw[iB h];exact j5
     rw[P _ this,vA];rw[show Ad [x,c]=none from by rw[h1];simp[Ad,iL],Option.map_none,vB]
    | cons q r =>
     have ht:Ad (x::c::q::r)=if F4 c=true/\F4 q=true then(Pn r).map λt=>(pT 0 c,pT 0 q,t.1,t.2.1,t.2.2)else none:=by rw[Ad,zab h1]
     rw[ht];by_cases h:c=[]
     .subst h;rw[P _ (cA gC),vA,zaa (by simp[MD]),Option.map_none,vB]
     .rw[iB h];by_cases f:q=[]
      .subst f;rw[P _ gC,vA,zaa (by simp[MD]),Option.map_none,vB]
      .simp only;rw[iB f];simp only;by_cases hv:F4 c=true/\F4 q=true
       .rw[zab hv,lM hv.1,lM hv.2];simp only[hv.1,hv.2,zeq,zea];cases r with
        | nil =>
         simp only[nd,Pn];cases iL []<;>rfl
        | cons l g =>
         by_cases hl:l=LAST
         .simp only[nd,Pn,hl,zce];cases iL g<;>rfl
         .simp only[nd,Pn,hl,zbq];cases iL (l::g)<;>rfl
       .rw[zaa hv,P _ (by
         grind),vA,Option.map_none,vB]
  .have e:nd PART ⟨x::t,bad⟩=(false,⟨x::t,bad⟩):=by simp[nd,h1]
   rw[e];simp only[zay,zbq];rw[p_j2 ha H];have ht:Ad (x::t)=(iL (x::t)).map λt=>(0,0,false,t.1,t.2):=by
    cases t with
    | nil=>rfl
    | cons c t2 =>
     cases t2 with
     | nil=>rfl
     | cons q r=>rw[Ad,zaa h1]
   rw[ht,Option.map_map];rfl
end decode
def C5(c):1+Go.Lib.index [118,116,100,99] [c]=sY [c]:=by
 unfold sY;by_cases h1:c=118
 .subst h1;rfl
 .by_cases h2:c=116
  .subst h2;rfl
  .by_cases h3:c=100
   .subst h3;rfl
   .by_cases h4:c=99
    .subst h4;rfl
    .have e:((c==118)=false):=by simp_all
     have h:((c==116)=false):=by simp_all
     have H:((c==100)=false):=by simp_all
     have a:((c==99)=false):=by simp_all
     simp[Go.Lib.index,List.isPrefixOf,e,h,H,a,h1,h2,h3,h4]
theorem Ub{k y}:KB (k,y) (Go.Lib.index [118,116,100,99] k)=false↔0<sY k:=by
 unfold KB
 match k with
 | []=>simp[sY]
 | [c] =>
  rw[C5];have:sY [c]=0∨0<sY [c]:=by unfold sY;omega
  grind
 | a::b::t =>
  simp[sY];omega
def aar(k):-1<=Go.Lib.index [118,116,100,99] k/\Go.Lib.index [118,116,100,99] k<=4:=by
 refine⟨Go.Lib.index_ge _ _,?_⟩;rcases Go.Lib.index_spec [118,116,100,99] k with⟨h,_⟩|⟨i,h,h2,_⟩
 .omega
 grind
theorem VX{w i}(hi:i<7)(h:w[i]?=none∨w[i]?=some []):EB w=none:=by
 unfold EB;split
 .rename_i k s1 s2 a b t u rest;rw[zaa];rintro⟨c,c1,H,f,g,d,e⟩
  match i,hi with
  | 0,_=>simp at h;subst h;exact absurd c (by simp[sY])
  | 1,_=>simp at h;exact ME c1 h
  | 2,_=>simp at h;exact ME H h
  | 3,_=>simp_all
  | 4,_=>simp_all
  | 5,_=>simp at h;exact ME d h
  | 6,_=>simp at h;exact ME e h
 .rfl
theorem aas line(hl:line.length<=100000):lW line=some (FA line):=by
 unfold lW BY Lh;rw[ae (by grind),Ks];simp only[zac,aap,iz];rw[ae (by simp)];simp only[zac];have p:=aar (po ⟨iA 32 line,false⟩).1;rw[ae (by omega)];have hlen:∀w,w∈iA 32 line->w.length<1000000000:=λw F=>by have:=(yB 32 line w F).2;omega
 unfold FA;generalize iA 32 line=ws at hlen p ⊢;have g:∀(y2:List uA×az) (y3:Int) (y4 y5:Int×az) (y6 e:List uA×az) (y8 y9:Int×az),y6.1.length<1000000000->e.1.length<1000000000 ->
   (if(e.1==([45]:List uA))=true then dY line y2 y3 y4 y5 y6 y8 y9 []else dY line y2 y3 y4 y5 y6 y8 y9 e.1) =
   some (zD y9.2.bad (KB y2 y3) ((Ad y9.2.words).map λt=>⟨y4.1,y5.1,1+y3,y6.1,bF e.1,y8.1,y9.1,t.1,t.2.1,t.2.2.1,t.2.2.2.1,t.2.2.2.2⟩) line):=by
  intro y2 y3 y4 y5 y6 e y8 y9 j q;unfold bF;by_cases h:e.1=[45]
  .rw[zab (by grind),zab h,p_j1 j (by simp)]
  .rw[zaa (by grind),zaa h,p_j1 j q]
 have d:∀r:az,(∀w,w∈r.words->w.length<1000000000)->(po r).1.length<1000000000/\∀w,w∈(po r).2.words->w.length<1000000000:=by
  rintro⟨w,bb⟩ v;unfold po
  grind
 have V:∀r:az,(∀w,w∈r.words->w.length<1000000000)->∀w,w∈(j4 r).2.words->w.length<1000000000:=λr v=>(d r v).2
 have h2:=d ⟨ws,false⟩ hlen;have h4:=V _ h2.2;have G:=V _ h4;have j:=d _ G;have q:=d _ j.2;rw[g _ _ _ _ _ _ _ _ j.1 q.1];congr 1;have H:∀{r:az},r.bad=true->zD (j4 (j4 (po (po r).2).2).2).2.bad=zD true:=λh=>by rw[cA (cA (vz (vz h)))]
 have f:∀(o:Option aa) (k:Bool) (w:List (List uA)) (i:Nat),i<7->(w[i]?=none∨w[i]?=some [])->zD true k o line=(match EB w with|none=>(Z,1)|some x=>fin line x):=by
  intro o k w i hi h;rw[vA,VX hi h]
 cases ws with
 | nil=>rfl
 | cons k I =>
 by_cases hk:k=[]
 .subst hk;rw[H (cA (cA yC))];exact f _ _ _ 0 (by omega) (.inr rfl)
 rw[wK hk];simp only;cases I with
 | nil =>
  rw[H (cA j5)];exact f _ _ [k] 1 (by omega) (.inl rfl)
 | cons s1 J =>
 by_cases l:s1=[]
 .subst l;rw[H (cA gC)];exact f _ _ _ 1 (by omega) (.inr rfl)
 rw[iB l];simp only;cases J with
 | nil =>
  rw[H j5];exact f _ _ [k,s1] 2 (by omega) (.inl rfl)
 | cons s2 K =>
 by_cases m:s2=[]
 .subst m;rw[H gC];exact f _ _ _ 2 (by omega) (.inr rfl)
 rw[iB m];simp only;cases K with
 | nil =>
  rw[cA (cA (vz IA))];exact f _ _ [k,s1,s2] 3 (by omega) (.inl rfl)
 | cons a L =>
 by_cases ha:a=[]
 .subst ha;rw[cA (cA (vz yC))];exact f _ _ _ 3 (by omega) (.inr rfl)
 rw[wK ha];simp only;cases L with
 | nil =>
  rw[cA (cA IA)];exact f _ _ [k,s1,s2,a] 4 (by omega) (.inl rfl)
 | cons b M =>
 by_cases A:b=[]
 .subst A;rw[cA (cA yC)];exact f _ _ _ 4 (by omega) (.inr rfl)
 rw[wK A];simp only;cases M with
 | nil =>
  rw[cA j5];exact f _ _ [k,s1,s2,a,b] 5 (by omega) (.inl rfl)
 | cons t N =>
 by_cases ht:t=[]
 .subst ht;rw[cA gC];exact f _ _ _ 5 (by omega) (.inr rfl)
 rw[iB ht];simp only;cases N with
 | nil =>
  rw[j5];exact f _ _ [k,s1,s2,a,b,t] 6 (by omega) (.inl rfl)
 | cons u rest =>
 by_cases B:u=[]
 .subst B;rw[gC];exact f _ _ _ 6 (by omega) (.inr rfl)
 rw[iB B];simp only;unfold EB;simp only;by_cases s:0<sY k/\F4 s1=true/\F4 s2=true/\a≠[]/\b≠[]/\F4 t=true/\F4 u=true
 .rw[zab s];obtain⟨n,c1,C,Q,R,D,E⟩:=s;rw[Ub.2 n,lM c1,lM C,lM D,lM E];have O:1+Go.Lib.index [118,116,100,99] k=sY k:=by
   match k with
   | []=>grind
   | [c]=>exact C5 c
   | x::y::z=>exact absurd n (by simp[sY])
  rw[O];simp only[c1,C,D,E,zeq,zea];unfold zD;rw[zaa (by simp)]
 .rw[zaa s];unfold zD;rw[zab];by_cases n:0<sY k
  .grind
  .right;cases P:KB (k,⟨s1::s2::a::b::t::u::rest,false⟩) (Go.Lib.index [118,116,100,99] k)with
   | true=>rfl
   | false=>exact absurd (Ub.1 P) n
def RJ{line}(h:(FA line).2=0):cL (FA line).1=0/\z8 (FA line).1=line:=by
 unfold FA at h ⊢;cases H:EB (iA 32 line)with
 | none=>rw[H]at h;simp at h
 | some x =>
  rw[H]at h;simp only at h ⊢;unfold fin at h ⊢
  grind
def lN(s:LQ uA):LQ (LQ uA)×Int:=if s≠[]/\nth s (s.length-1)≠10 then([],1)else if 4096<(iA 10 s).length-1 then([],5)else((iA 10 s).dropLast,0)
def snoc_of{s:LQ uA}(h:s≠[]):∃t,s=t++[nth s (s.length-1)]:=by
 have hl:0<s.length:=zcn.2 h;refine⟨s.take (s.length-1),?_⟩;have:=BC (l:=s) (k:=s.length-1) (by omega);rw[←this,show s.length-1+1=s.length from by omega,List.take_length]
def E6{t c}:Go.Lib.hasSuffix (t++[c]) [10]=decide (c=10):=by
 unfold Go.Lib.hasSuffix;rw[zbt,List.isSuffixOf_iff_suffix,zbo];constructor
 .simp_all
 simp_all
def VY{t}:Go.Lib.trimSuffix (t++[10]) [10]=t:=by
 unfold Go.Lib.trimSuffix;rw[E6];simp
def p_Lines s(hl:s.length<=100000):nr s=some (lN s):=by
 unfold nr lN xH BY;by_cases h0:s=[]
 .subst h0;rw[zab (by simp),zaa (by simp),zaa (by simp[iA])];rfl
 .rw[zaa (by simp_all),ae (by omega)];obtain⟨t,ht⟩:=snoc_of h0;simp only[zac];generalize nth s (s.length-1)=c at ht ⊢;subst ht;rw[E6];by_cases h:c=10
  .subst h;rw[zaa (by simp),zaa (by simp),VY,ae (by grind),Ks];simp only[zac];rw[Kr]
   grind
  simp_all
def Be:List (List uA)->List aa
 | []=>[]
 | x::r=>if(FA x).2=0 then(FA x).1::Be r else Be r
def FB:Int->List (List uA)->List ai
 | _,[]=>[]
 | i,x::r=>if(FA x).2=0 then FB (i+1) r else⟨0,0,i,(FA x).2⟩::FB (i+1) r
def Ez(s:LQ uA):= if(lN s).2≠0 then([],[],(lN s).2)else(Be (lN s).1,FB 0 (lN s).1,0)
def RL{s w}(h:w∈(lN s).1):w.length<=s.length/\free 10 w:=by
 unfold lN at h;split at h
 .simp at h
 .split at h
  .simp at h
  .have:=yB 10 s w (List.dropLast_subset _ h);simp_all
def IB(s):(lN s).1.length<=s.length:=by
 unfold lN;split
 .simp
 .split
  .simp
  .have:=Pm 10 s
   grind
def p_All s(hl:s.length<=100000):qj s=some (Ez s):=by
 unfold qj Ez;rw[p_Lines s hl,zac];by_cases h:(lN s).2=0
 .rw[zaa (by simp[h]),zaa (by simp[h])];have b:∀w,w∈(lN s).1->w.length<=100000:=λw c=>by have:=(RL c).1;omega
  have H:=IB s;generalize lN s=y at b H h ⊢;have:=dM (step:=λst=>pH y st.1 st.2.1 st.2.2) (λst:LQ aa×LQ ai×Int=>some (st.1++Be (y.1.drop st.2.2.toNat),st.2.1++FB st.2.2 (y.1.drop st.2.2.toNat),(0:Int)))
   (λst=>0<=st.2.2/\st.2.2<=(y.1.length:Int)/\(st.1.length:Int)<=st.2.2/\(st.2.1.length:Int)<=st.2.2) (λst=>((y.1.length:Int) - st.2.2).toNat) (λst d=>by
    obtain⟨out,no,i⟩:=st;obtain⟨i0,e,i2,i3⟩:=d;simp only at i0 e i2 i3 ⊢;unfold pH;by_cases hi:i<(y.1.length:Int)
    .rw[zab (by simp_all),ae (by omega),aas _ (b _ (by rw[cV (show i.toNat<y.1.length by omega)];simp_all)),zac];rw[j7 (show i.toNat<y.1.length by omega)];by_cases a:(FA (nth y.1 i.toNat)).2=0
     .rw[zaa (by simp[a]),ae (by grind),ae (by omega)];refine .inr ⟨_,rfl,⟨by grind,by grind,by grind,by grind⟩,by grind,?_⟩;simp only;rw[show(i+1).toNat=i.toNat+1 from by omega];simp[Be,FB,a]
     .rw[zab (by simp_all),ae (by grind),ae (by omega)];refine .inr ⟨_,rfl,⟨by grind,by grind,by grind,by grind⟩,by grind,?_⟩;simp only;rw[show(i+1).toNat=i.toNat+1 from by omega];simp[Be,FB,a]
    .rw[zaa (by simp_all)];refine .inl ⟨_,rfl,?_⟩;rw[zbs (by omega)];simp[Be,FB]) (s:=([],[],0)) ⟨by simp,by simp,by simp,by simp⟩ (by grind)
  rw[this];simp
 simp_all
def Pp:∀l:LQ (LQ uA),(Be l).length<=l.length
 | []=>by simp[Be]
 | x::r=>by
  have:=Pp r;unfold Be
  grind
def Pq:∀l i,(FB i l).length<=l.length
 | [],i=>by simp[FB]
 | x::r,i=>by
  have:=Pq r (i+1);unfold FB
  grind
def aau(s):(Ez s).1.length<=s.length/\(Ez s).2.1.length<=s.length:=by
 have h:=IB s;have h1:=Pp (lN s).1;have h2:=Pq (lN s).1 0;unfold Ez
 grind
end Go.Proofs.YtleflofddacmdaaGreatDoor.C9
namespace Go.Proofs.YtleflofddacmdaaGreatDoor.C12
open Go.RowKit Go.Abs
def uJ(f:Int)(b:LQ uA):= if f=2 then C10.C2 0 [] [] b else if f=3 then C11.Ez b else C9.Ez b
def aav f b(h:b.length<=100000):oI f b=some (uJ f b):=by
 unfold oI uJ;by_cases h2:f=2
 .rw[zab (by simp_all),zab h2,C10.p_tAll b h];rfl
 .rw[zaa (by simp_all),zaa h2];by_cases h3:f=3
  .rw[zab (by simp_all),zab h3,C11.p_All11 b h];rfl
  .rw[zaa (by simp_all),zaa h3,C9.p_All b h];rfl
def IC f(b):(uJ f b).1.length<=b.length/\(uJ f b).2.1.length<=b.length:=by
 unfold uJ;split
 .have:=C10.aan b.length b 0 [] [] (zag _);simp_all
 .split
  .unfold C11.Ez;split
   .simp
   .split
    .simp
    .have h1:=C11.Pe b (b.length / 45) 0;have h2:=C11.Pf b (b.length / 45) 0
     grind
  .exact C9.aau b
def B0:Batch:=⟨0,0,0,[]⟩
def oZ(b:LQ uA):=
 if(uI b).2.2≠0 then(B0,[],(uI b).2.2)else
 let u:=kz (uI b).2.1
 if u.2.2≠0 then(B0,[],u.2.2)else
 let d:=uJ (uI b).1.format u.1
 if d.2.2≠0 then(B0,[],d.2.2)else
 let t:=VM u.2.1
 if t.2≠0 then(B0,[],t.2)else
 if !jy (fE.gn t.1) (fE.gn ⟨ d.1.length,totT d.1⟩) || (uI b).1.count != d.1.length then(B0,[],14)else
 if d.1.all λr=>r.source==(uI b).1.source then(⟨(uI b).1.source,(uI b).1.number,(uI b).1.format,d.1⟩,d.2.1,0)else(B0,[],8)
def Uc(b):(uI b).2.1.length<=b.length:=by
 have:=CY b;unfold uI
 grind
def p_readL y y3(hl:y3.1.length<=100000):loop (λs=>nu y y3 s) 0=some (if y3.1.all λr=>r.source==y.1.source then(⟨y.1.source,y.1.number,y.1.format,y3.1⟩,y3.2.1,0)else(B0,[],8)):=by
 refine HW y3.1 (λr=>r.source==y.1.source) _ _ (by omega) (λi h0 hi=>?_) (λi hi=>?_)
 .unfold nu;rw[zab (by simp_all),ae ⟨h0,hi⟩];by_cases h:(nth y3.1 i.toNat).source=y.1.source
  .rw[zaa (by simp[h]),ae (by omega),zab (by simp[h])]
  .rw[zab (by grind),zaa (by grind)];rfl
 .subst hi;unfold nu;rw[zaa (by simp)];rfl
def p_Read b(c:b.length<=100000):rD b=some (oZ b):=by
 unfold rD oZ;have l1:=Uc b;rw[p_first b c];simp only[zac];by_cases h:(uI b).2.2=0
 .have l2:=CY (uI b).2.1;simp only[h,ne_eq,zbw,zbq];rw[zaa (by decide),It _ (by omega)];simp only[zac];generalize kz (uI b).2.1=u at *;by_cases H:u.2.2=0
  .have l3:=IC (uI b).1.format u.1;simp only[H,zbw,zbq];rw[zaa (by decide),aav _ _ (by omega)];simp only[zac];generalize j:uJ (uI b).1.format u.1=d at *;by_cases a:d.2.2=0
   .obtain⟨t,g,f⟩:=VN u.2.1 (by omega);simp only[a,zbw,zbq];rw[zaa (by decide),g];simp only[zac];by_cases e:(VM u.2.1).2=0
    .have i:=f e;subst i;simp only[e,zbw,zbq];rw[zaa (by decide),Z6 _ (by omega)];simp only[zac];rw[p_readL _ _ (by omega)];split<;>rfl
    .simp only[e,zfp,zce];rw[zab (by simp_all)];rfl
   .simp only[a,zfp,zce];rw[zab (by simp_all)];rfl
  .simp only[H,zfp,zce];rw[zab (by simp_all)];rfl
 .simp only[h,ne_eq,zfp,zce];rw[zab (by simp_all)];rfl
def VZ(b):(oZ b).1.records.length<=b.length/\(oZ b).2.1.length<=b.length:=by
 have l1:=Uc b;have l2:=CY (uI b).2.1;have l3:=IC (uI b).1.format (kz (uI b).2.1).1;unfold oZ;simp only;split
 .simp[B0]
 .split
  .simp[B0]
  .split
   .simp[B0]
   .split
    .simp[B0]
    .split
     .simp[B0]
     .split
      .grind
      .simp[B0]
end Go.Proofs.YtleflofddacmdaaGreatDoor.C12
namespace Go.Proofs.YtleflofddacmdaaGreatDoor.C12
open Go.RowKit Go.Abs
open Go.Proofs.YtleflofddacmdaaGreatDoor.C10 (encL)
open Go.Proofs.YtleflofddacmdaaGreatDoor.C11 (bytesF)
def OkL(l:LQ aa):= ∀r,r∈l->cL r=0
end Go.Proofs.YtleflofddacmdaaGreatDoor.C12
namespace Go.Proofs.YtleflofddacmdaaGreatDoor.C9
open Go.RowKit Go.Abs
def aaw(xs:LQ (LQ uA)):= (xs.map (·++[10])).flatten
end Go.Proofs.YtleflofddacmdaaGreatDoor.C9
namespace Go.Proofs.YtleflofddacmdaaGreatDoor.C12
open Go.RowKit Go.Abs
def EC x(l):C9.aaw (x::l)=x++10::C9.aaw l:=by simp[C9.aaw]
def Pr:∀h i,OkL (C9.Be h)/\(C9.aaw ((C9.Be h).map z8)).length<=(C9.aaw h).length/\(C9.FB i h=[]->(C9.Be h).map z8=h)
 | [],i=>⟨(λr H=>by cases H),by simp[C9.Be],λ_=>rfl⟩
 | w::h,i=>by
  obtain⟨h1,h2,h3⟩:=Pr h (i+1);unfold C9.Be C9.FB;by_cases a:(C9.FA w).2=0
  .obtain⟨d,b⟩:=C9.RJ a;rw[zab a,zab a];refine⟨λr H=>?_,?_,λhn=>?_⟩
   .rcases zao.1 H with rfl|H
    .exact d
    .exact h1 r H
   .rw[zbb,EC,EC,b];simp_all
   simp_all
  .rw[zaa a,zaa a];refine⟨h1,?_,λhn=>by cases hn⟩;rw[EC]
   grind
def Ps(b):∀n i:Nat,(i+n)*45<=b.length->OkL (C11.C0 b i n)/\(C11.Fx b i n=[]->((C11.C0 b i n).map C11.bytesF).flatten=C11.cut b (i*45) (n*45))
 | 0,i,_=>⟨(λr h=>by cases h),λ_=>by simp[C11.C0,C11.cut]⟩
 | n+1,i,hl=>by
  obtain⟨h1,h2⟩:=Ps b n (i+1) (by omega);unfold C11.C0 C11.Fx;by_cases H:(C11.nB (C11.cut b (i*45) 45)).2=0
  .obtain⟨d,a⟩:=C11.RE H;rw[zab H,zab H];refine⟨λr h=>?_,λhn=>?_⟩
   .rcases zao.1 h with rfl|h
    .exact a
    .exact h1 r h
   .rw[zbb,zfo,d,h2 hn,show(i+1)*45=i*45+45 from by omega,C11.lK,show 45+n*45=(n+1)*45 from by omega]
  simp_all
end Go.Proofs.YtleflofddacmdaaGreatDoor.C12
namespace Go.Proofs.YtleflofddacmdaaGreatDoor
open Go.RowKit Go.Abs
def RN bZ m b w(he:(lG m.aw b w).2.2.2=0):pn bZ (pn bZ m b w).1 b w=(PE,20):=by
 obtain⟨d,f,ha⟩:=T2 he;have a:(pn bZ m b w).1.aw=(CU m.aw b w).1:=by unfold pn;rw[zab he,ha]
 generalize pn bZ m b w=n at a;obtain⟨n,e⟩:=n;simp only at a ⊢;have h:n.aw.aZ=m.aw.aZ++[(⟨b.source,b.number,b.format,(b.records.length:Int)⟩:Head)]:=by rw[a];rfl
 have H:qD b.source 1 n.aw.aZ=b.number+1:=by rw[h,Ba,zab rfl]
 have c:lG n.aw b w=(noS,[],[],20):=by
  unfold lG;rw[zab d,zaa (by rw[H];omega)]
 unfold pn;rw[c];simp
def aax{m}(g:mE m){j k}(H:j<k)(hk:k<m.usages.length):(nth m.usages j).id≠(nth m.usages k).id/\¬((nth m.usages j).source=(nth m.usages k).source/\(nth m.usages j).aJ=(nth m.usages k).aJ):=by
 have h1:=(g.usg j (by omega)).1;have h2:=(g.usg k hk).1;refine⟨by omega,λh=>?_⟩;have hu:(m.usages.map yx).Pairwise NS:=(zdv.1 (zdv.1 g.uniq).1).1;have M:=List.pairwise_map.1 hu;have:=ZV.2 M k hk j H;exact this ⟨h.1,h.2⟩
abbrev maxL:= 9223372036854775807
def p_Fine bZ files(h1:bZ.length<=maxL)(h2:files.length<=maxL)(hs:ShE bZ):
  ∃c,wk bZ files=some c/\(c=true->bZ.length<=24/\VC b0 0 bZ/\files.length<=6/\∀f,f∈files->f.length<=2000):=by
 unfold wk;by_cases H:((decide ((bZ.length:Int) > 24)) || (decide ((files.length:Int) > 6)))=true
 .rw[zab H];simp_all
 .rw[zaa H];have ha:bZ.length<=24/\files.length<=6:=by grind
  obtain⟨x,hx,hv⟩:=TU bZ 0 0 b0 0 bb0 (by omega) hs;have a:qe bZ=some (x.2==0):=by
   unfold qe;rw[Rz bZ (by omega) hs,hx];rfl
  obtain⟨r,j,l⟩:=rR (step:=λs=>uf bZ files s) (λc=>c=true->VC b0 0 bZ/\∀f,f∈files->f.length<=2000)
   (λi=>0<=i/\i<=(files.length:Int)/\∀k:Nat,(k:Int)<i->(nth files k).length<=2000) (λi=>((files.length:Int) - i).toNat) (λi ⟨b,m,d⟩=>by
    unfold uf;by_cases hi:i<(files.length:Int)
    .rw[zab (by simp_all),ae ⟨b,hi⟩];by_cases hl:((nth files i.toNat).length:Int) > 2000
     .rw[zab (by simp_all)];simp_all
     .rw[zaa (by simp_all),ae ⟨by omega,by omega⟩];refine .inr ⟨_,rfl,⟨by omega,by omega,λk hk=>?_⟩,by omega⟩;by_cases e:(k:Int)=i
      .have:k=i.toNat:=by omega
       rw[this];omega
      grind
    .rw[zaa (by simp_all),a];refine .inl ⟨_,rfl,λh=>⟨hv (by grind),λf g=>?_⟩⟩;obtain⟨k,hk,rfl⟩:=List.mem_iff_getElem.1 g;have:=d k (by omega)
     rwa [cV hk]at this) (s:=0) ⟨by omega,by omega,λk hk=>by omega⟩ (by omega)
  simp_all
def finD_ok l ok r(h:(C10.Fz ok r l).2=0):cL (C10.Fz ok r l).1=0:=by
 unfold C10.Fz C10.endF at h ⊢
 grind
def decT_ok{b}(h:(C10.Jr b).2=0):cL (C10.Jr b).1=0:=by
 unfold C10.Jr at h ⊢;split at h
 .cases h
 .rename_i h1;rw[zaa h1];split at h
  .cases h
  .rename_i h2;rw[zaa h2];split at h
   .omega
   .rename_i h3;rw[zaa h3];exact finD_ok _ _ _ h
def tagL_ok:∀n b i out no,b.length<=n->C12.OkL out->(C10.C2 i out no b).2.2=0->C12.OkL (C10.C2 i out no b).1:=by
 intro n
 induction n with
 | zero =>
  intro b i out no h c _;rw[C10.C2,zab (by omega)];exact c
 | succ n g =>
  intro b i out no h c H;rw[C10.C2]at H ⊢;by_cases c1:b.length=0
  .rw[zab c1];exact c
  rw[zaa c1]at H ⊢;by_cases d:i=4096
  .rw[zab d]at H;cases H
  rw[zaa d]at H ⊢;by_cases e:b.length<2∨b.length-2<C10.lL b
  .rw[zab e]at H;cases H
  rw[zaa e]at H ⊢;by_cases f:(C10.Jr (b.take (2+C10.lL b))).2≠0
  .rw[zab f]at H ⊢
   grind
  .rw[zaa f]at H ⊢;refine g _ (i+1) _ no (by grind) (λr a=>?_) H;rcases zbi.1 a with a|a
   .exact c r a
   .rw[zcg]at a;subst a;exact decT_ok (by omega)
def RJ{f b}(h:(C12.uJ f b).2.2=0):C12.OkL (C12.uJ f b).1:=by
 unfold C12.uJ at h ⊢;split at h
 .rename_i h2;rw[zab h2];exact tagL_ok b.length b 0 [] [] (zag _) (λr a=>by cases a) h
 .rename_i h2;rw[zaa h2];split at h
  .rename_i h3;rw[zab h3];unfold C11.Ez at h ⊢;by_cases c:b.length % 45=0
   rotate_left
   .rw[zab c]at h;cases h
   rw[zaa (by simp[c])]at h ⊢;by_cases H:b.length / 45 > 4096
   .rw[zab H]at h;cases h
   rw[zaa H];exact(C12.Ps b (b.length / 45) 0 (by omega)).1
  .rename_i h3;rw[zaa h3];unfold C9.Ez at h ⊢;by_cases c:(C9.lN b).2=0
   rotate_left
   .rw[zab c]at h;simp_all
   rw[zaa (by simp[c])];exact(C12.Pr (C9.lN b).1 0).1
def read_ok{b}(h:(C12.oZ b).2.2=0):C12.OkL (C12.oZ b).1.records:=by
 unfold C12.oZ at h ⊢;split at h
 .simp_all
 rename_i h1;rw[zaa h1];simp only at h ⊢;split at h
 .simp_all
 rename_i h2;rw[zaa h2];split at h
 .simp_all
 rename_i h3;rw[zaa h3];split at h
 .simp_all
 rename_i h4;rw[zaa h4];split at h
 .cases h
 rename_i H;rw[zaa H];split at h
 .rename_i a;rw[zab a];exact RJ (by omega)
 .cases h
structure C6(m:aM)(i:Int):Prop where
 qY:mE m
 tot:(m.usages.length+m.bc.length+m.aw.open_.length+m.cX.length:Int)<=2010*i
 seen:(m.aw.seen.length:Int)<=2010*i
 aZ:(m.aw.aZ.length:Int)<=i
def C6.up{m i}(h:C6 m i):C6 m (i+1):=⟨h.qY,by have:=h.tot;omega,by have:=h.seen;omega,by have:=h.aZ;omega⟩
def C6.sm{m i}(h:C6 m i)(hi:i<=6):ZX m:=by
 have a:=h.tot;have b:=h.seen;have c:=h.aZ;exact h.qY.sm22 (by omega) (by omega) (by omega) (by omega) (by omega) (by omega)
def C6.med{m i}(h:C6 m i)(hi:i<=6):Med m:=by
 have a:=h.tot;have b:=h.seen;have c:=h.aZ;exact h.qY.med (h.sm hi) (by omega) (by omega) (by omega)
def C6.feed{bZ}(hl:bZ.length<=40)(hv:VC b0 0 bZ){m i}(h:C6 m i){b w}(H:Vq m.aw b)(hn:b.records.length<=2000)(he:(lG m.aw b w).2.2.2=0):C6 (pn bZ m b w).1 (i+1):=by
 have a:=h.tot;have b':=h.seen;have c:=h.aZ;have f:=Kl bZ hl hv h.qY H he;have f1:=f.len;have f2:=f.seen;have f3:=f.aZ;refine⟨VF bZ hl hv h.qY H he,?_,?_,?_⟩<;>omega
def V1:C6 PE 0:=by
 have g:yu PE.aw:=⟨rfl,⟨by simp[PE],by simp[PE]⟩,opn_nil,by
    rw[FU];intro k _ _;exact zgh _,rfl⟩
 refine⟨⟨g,λk hk=>absurd hk (by simp[PE]),λr h=>absurd h (by simp[PE]),λr h=>absurd h (by simp[PE]),λr h=>absurd h (by simp[PE,tc]),λr h=>absurd h (by simp[PE,tc]),by simp[PE,tc],?_⟩,by simp[PE],by simp[PE],by simp[PE]⟩;rw[Ew];simp[PE,ou,te]
structure SumOk(b:lR):Prop where
 s1:cR (b.accepted+b.merged)
 s2:cR ((b.accepted+b.merged)+b.rejected)
 s3:cR (((b.accepted+b.merged)+b.rejected)+b.br)
 s4:cR ((((b.accepted+b.merged)+b.rejected)+b.br)+b.open_)
def sum_ok{m}(h:Bal m):SumOk (pU m):=by
 obtain⟨h1,h2,h3,h4,H,a⟩:=Mw h;have:=h.l1;have:=h.l2;have:=h.l3;have:=h.l4;have:=h.l5;have:=h.l6;exact⟨⟨by omega,by omega⟩,⟨by omega,by omega⟩,⟨by omega,by omega⟩,⟨by omega,by omega⟩⟩
def Ud{m}(h:Bal m):og m=some m:=by
 have:=h.l1;have:=h.l2;have:=h.l3;have:=h.l4;have:=h.l5;have:=h.l6;unfold og;rw[ae (by omega),ae (by omega),ae (by omega),ae (by omega),ae (by omega),ae (by omega)]
abbrev Pu:eD:=⟨0,1073741824⟩
def once3 y5(g:mE y5.1)(hl:y5.1.usages.length<=100000)(k:Nat)(hk:k<y5.1.usages.length):loop (λs=>fP y5 k s) 0=some (.inl (k+1)):=by
 obtain⟨r,H,a⟩:=rR (step:=λs=>fP y5 (k:Int) s) (λr=>r=.inl ((k:Int)+1)) (λi=>0<=i/\i<=(k:Int)) (λi=>((k:Int) - i).toNat) (λi ⟨h,b⟩=>by
  unfold fP;by_cases hi:i<(k:Int)
  .obtain⟨d,c⟩:=aax g (j:=i.toNat) (k:=k) (by omega) hk;rw[zab (by simp_all),ae ⟨h,by omega⟩,ae ⟨by omega,by omega⟩,ae (λ_=>⟨h,by omega⟩),ae (λ_=>⟨by omega,by omega⟩),ae (λ_=>⟨h,by omega⟩),ae (λ_=>⟨by omega,by omega⟩),zaa (by simp_all),ae ⟨by omega,by omega⟩]
   grind
  .rw[zaa (by simp_all),ae ⟨by omega,by omega⟩];simp_all) (s:=0) ⟨by omega,by omega⟩ (by omega)
 rw[H,a]
def once2(rd i) y3 y5(g:mE y5.1)(hl:y5.1.usages.length<=100000)(h0:0<=i)(h1:i<100):
  loop (λs=>fQ rd i y3 y5 s) 0=some (.inl (rd+y3.1.records.length,i+1,y5.1.aw.seen,y5.1.aw.open_,y5.1.aw.aZ,y5.1.usages,y5.1.bc,y5.1.cX)):=by
 obtain⟨r,h,H⟩:=rR (step:=λs=>fQ rd i y3 y5 s) (λr=>r=.inl (rd+(y3.1.records.length:Int),i+1,y5.1.aw.seen,y5.1.aw.open_,y5.1.aw.aZ,y5.1.usages,y5.1.bc,y5.1.cX)) (λk=>0<=k/\k<=(y5.1.usages.length:Int)) (λk=>((y5.1.usages.length:Int) - k).toNat) (λk ⟨a,b⟩=>by
  unfold fQ;by_cases hk:k<(y5.1.usages.length:Int)
  .obtain⟨n,rfl⟩:∃n:Nat,k=(n:Int):=⟨k.toNat,by omega⟩;rw[zab (by simp_all),once3 y5 g hl n (by omega)]
   grind
  .rw[zaa (by simp_all),ae ⟨by omega,by omega⟩];simp_all) (s:=0) ⟨by omega,by omega⟩ (by omega)
 rw[h,H]
def once1 bZ(hl:bZ.length<=24)(hv:VC b0 0 bZ) files(I:files.length<=6)(v:∀f,f∈files->f.length<=2000)(rd i) m(h:C6 m i)(h0:0<=i)(hi:i<files.length)(p:(pU m).read=rd):
  ∃(d:Int) (n:aM),eF bZ files rd i m.aw.seen m.aw.open_ m.aw.aZ m.usages m.bc m.cX=some (.inl (d,i+1,n.aw.seen,n.aw.open_,n.aw.aZ,n.usages,n.bc,n.cX))/\C6 n (i+1)/\(pU n).read=d:=by
 have hk:i.toNat<files.length:=by omega
 have A:(nth files i.toNat).length<=2000:=v _ (by rw[cV hk];simp_all);generalize x:nth files i.toNat=f at A;have q:Bal m:=(h.sm (by omega)).bal h.qY.aw;unfold eF;rw[zab (by simp_all),ae ⟨h0,hi⟩,x,ae (by omega),C12.p_Read f (by omega),zac];by_cases y:(C12.oZ f).2.2=0
 rotate_left
 .rw[zab (by simp_all),ae ⟨by omega,by omega⟩];exact⟨rd,m,rfl,h.up,p⟩
 .rw[zaa (by simp_all),ae (by omega),show(⟨⟨m.aw.seen,m.aw.open_,m.aw.aZ⟩,m.usages,m.bc,m.cX⟩:aM)=m from rfl,Ud q,zac];have z:=read_ok y;have hlen:=(C12.VZ f).1;have Z:∀r,r∈(C12.oZ f).1.records->Sm r:=λr B=>FQ (z r B)
  have t:=h.med (by omega);rw[Z1 bZ (by omega) m _ Pu t (by omega) Z,zac];have u:=t.smA (b:=(C12.oZ f).1) (by omega) Z;by_cases c:(lG m.aw (C12.oZ f).1 Pu).2.2.2=0
  .have l:(pn bZ m (C12.oZ f).1 Pu).2=0:=by unfold pn;rw[zab c]
   have g:=RN bZ m (C12.oZ f).1 Pu c;have H:=h.feed (w:=Pu) (b:=(C12.oZ f).1) (by omega) hv u (by omega) c;have o:=(Kl bZ (by omega) hv h.qY u c).read;generalize pn bZ m (C12.oZ f).1 Pu=y5 at l g H o ⊢;have k:Bal y5.1:=(H.sm (by omega)).bal H.qY.aw;have E:=H.med (by omega);have s:=sum_ok k;have C:=H.qY.bal;have j:(pU y5.1).read=rd+((C12.oZ f).1.records.length:Int):=by
    have a:(pU y5.1).read=te y5.1.aw.aZ:=rfl;have b:(pU m).read=te m.aw.aZ:=rfl;omega
   have D:=Mw k;have F:=Mw q;rw[zaa (by simp[l]),ae ⟨by omega,by omega⟩,Ud k,zac,VB _ k,zac,ae (λ_=>s.s1),ae (λ_=>s.s2),ae (λ_=>s.s3),ae (λ_=>s.s4),
    zaa (by
     have e:=C.2;have G:((((pU y5.1).accepted+(pU y5.1).merged)+(pU y5.1).rejected)+(pU y5.1).br)+(pU y5.1).open_=rd+((C12.oZ f).1.records.length:Int):=by omega
     rw[j,G]
     grind),ae (by omega),zac,Z1 bZ (by omega) y5.1 _ Pu E (by omega) Z,g,zac,zaa (by simp),once2 rd i _ y5 H.qY (by have:=H.tot;omega) h0 (by omega)]
   grind
  .have l:(pn bZ m (C12.oZ f).1 Pu).2≠0:=by unfold pn;rw[zaa c];exact c
   rw[zab (by simp_all),ae ⟨by omega,by omega⟩];exact⟨rd,m,rfl,h.up,p⟩
def V2 bZ files(h1:bZ.length<=maxL)(h2:files.length<=maxL)(hs:ShE bZ):lB bZ files=some true:=by
 unfold lB;obtain⟨c,b,d⟩:=p_Fine bZ files h1 h2 hs;rw[b,zac];cases c with
 | false=>rfl
 | true =>
  obtain⟨q1,q2,q,f⟩:=d rfl;rw[zaa (by simp)];obtain⟨r,g,h⟩:=rR (step:=λs:Int×Int×LQ Range×LQ aa×LQ Head×LQ bC×LQ aa×LQ ai=>eF bZ files s.1 s.2.1 s.2.2.1 s.2.2.2.1 s.2.2.2.2.1 s.2.2.2.2.2.1 s.2.2.2.2.2.2.1 s.2.2.2.2.2.2.2) (λr=>r=true)
   (λs=>0<=s.2.1/\s.2.1<=(files.length:Int)/\C6 (⟨⟨s.2.2.1,s.2.2.2.1,s.2.2.2.2.1⟩,s.2.2.2.2.2.1,s.2.2.2.2.2.2.1,s.2.2.2.2.2.2.2⟩:aM) s.2.1/\(pU (⟨⟨s.2.2.1,s.2.2.2.1,s.2.2.2.2.1⟩,s.2.2.2.2.2.1,s.2.2.2.2.2.2.1,s.2.2.2.2.2.2.2⟩:aM)).read=s.1) (λs=>((files.length:Int) - s.2.1).toNat) (by
    rintro⟨rd,i,s1,o1,o,u,p,t⟩ ⟨H,j,a,w⟩;simp only at H j a w ⊢;by_cases hi:i<(files.length:Int)
    .obtain⟨k,n,e,l,m⟩:=once1 bZ q1 q2 files q f rd i _ a H hi w;simp only at e;exact .inr ⟨_,e,⟨by grind,by grind,l,m⟩,by grind⟩
    .unfold eF;rw[zaa (by simp_all)];exact .inl ⟨true,rfl,rfl⟩) (s:=(0,0,([]:LQ Range),([]:LQ aa),([]:LQ Head),([]:LQ bC),([]:LQ aa),([]:LQ ai))) ⟨by simp,by simp,V1,by simp[pU,te]⟩ (by grind)
  rw[g,h]
end Go.Proofs.YtleflofddacmdaaGreatDoor
namespace Go.Abs
open Go.RowKit Go.ChangeShapes Go.WideShapes Go.Deep
inductive Sh where
 | i (k:IntKind)
 | b
 | s
 | sl (row:List Sh)
inductive ka:Sh->D->Prop where
 | i (k:IntKind) (n:Int) (h:(Lit.int k n).wf=true):ka (.i k) (.ex (.int k n))
 | b (x:Bool):ka .b (.ex (.bool x))
 | s (l:List uA) (h:l.length<=maxLen):ka .s (.ex (.string ⟨l.toArray⟩))
 | sl (row:List Sh) (rows:List (List D)) (hn:rows.length<=maxLen) (h1:∀r,r∈rows->r.length=row.length)
   (h:∀r,r∈rows->∀(i:Nat) sh d,row[i]?=some sh->r[i]?=some d->ka sh d):ka (.sl row) (.sl row.length rows)
def C7(P:uG)(rec:uE->Option (List Sh)):List Field->Nat->Option (List Sh)
 | [],_=>some []
 | f::h,off=>match rec f.type with
  | some r=>if Nat.beq f.offset off && Nat.beq r.length (P.cellsOf f.type)then(C7 P rec h (off+r.length)).map (r++·)else none
  | none=>none
def shape(P:uG):Nat->uE->Option (List Sh)
 | 0,_=>none
 | n+1,t=>match P.underlying t with
  | some (.int k)=>some [.i k]
  | some .bool=>some [.b]
  | some .string=>some [.s]
  | some (.slice e)=>match shape P n e with
   | some r=>if Nat.beq r.length (P.cellsOf e) && Nat.blt 0 r.length then some [.sl r]else none
   | none=>none
  | some (.struct f)=>match C7 P (shape P n) f.toList 0 with
   | some r=>if Nat.beq r.length (P.cellsOf t)then some r else none
   | none=>none
  | _=>none
def yD(lim:Nat->Nat)(w:uC)(I:LQ Sh)(cs:LQ uB):=
 ∃ds:LQ D,ds.length=I.length/\cs.length=I.length/\∀(i:Nat) s d c,I[i]?=some s->ds[i]?=some d->cs[i]?=some c->ka s d/\cq lim w d c/\c.oneCell'=true
def yD.one{lim w s d c}(h1:ka s d)(h2:cq lim w d c)(h3:c.oneCell'=true):yD lim w [s] [c]:=by
 refine⟨[d],rfl,rfl,λi a b e ha h H=>?_⟩;cases i with
 | zero=>simp at ha h H;subst ha;subst h;subst H;exact⟨h1,h2,h3⟩
 | succ i=>simp at ha
def yD.nil{lim w}:yD lim w [] []:=⟨[],rfl,rfl,λi _ _ _ h=>by simp at h⟩
def yD.append{lim w s1 s2 c1 c2}(h:yD lim w s1 c1)(k:yD lim w s2 c2):yD lim w (s1++s2) (c1++c2):=by
 obtain⟨e,b,b1,f⟩:=h;obtain⟨d2,a2,b2,g⟩:=k;refine⟨e++d2,by simp[b,a2],by simp[b1,b2],λi s d c ha H a=>?_⟩;by_cases hi:i<s1.length
 .rw[zaj hi]at ha;rw[zaj (by omega)]at H a;exact f i s d c ha H a
 .rw[zan (by omega)]at ha H a;rw[b]at H;rw[b1]at a;exact g _ s d c ha H a
section opening
variable {H:Type}{enc:uE×uB->H}{P:uG}{w:uC}{held:Bool}{lim:Nat->Nat}
def C8{rec}(cs:LQ uB):∀b off I,C7 P rec b off=some I->cs.length=off+I.length ->
  (∀(i:Nat) f,b[i]?=some f->∀r,rec f.type=some r->r.length=P.cellsOf f.type->yD lim w r ((cs.drop f.offset).take (P.cellsOf f.type)))->yD lim w I (cs.drop off)
 | [],off,I,h,hl,_=>by
  simp[C7]at h;subst h;rw[zbs (by simp at hl;omega)];exact .nil
 | f::b,off,I,h,hl,c=>by
  unfold C7 at h;split at h
  .rename_i r d;split at h
   .rename_i H;rw[zam]at H;replace H:=And.intro (zai H.1) (zai H.2);obtain⟨rest,a,rfl⟩:=zcp.1 h;simp only[zar]at hl;have h1:=c 0 f rfl r d H.2;have h2:=C8 cs b (off+r.length) rest a (by omega) λi g j=>c (i+1) g (by simpa using j)
    have e:cs.drop off=(cs.drop f.offset).take (P.cellsOf f.type)++cs.drop (off+r.length):=by
     rw[H.1,←H.2,←zfb,zcz]
    rw[e];exact h1.append h2
   .cases h
  .cases h
def yE(J:∀b off u,w.cell? ⟨b,off,none⟩=some u->off<lim b):∀n t K,shape P n t=some K->∀q cs x,DataW.trod enc P w 0 (λ_=>true) held q t cs=some x->yD lim w K cs
 | 0,_,_,h=>by simp[shape]at h
 | n+1,t,K,h=>by
  intro q cs x ht;unfold shape at h;split at h
  .rename_i k o;cases h;obtain⟨m,rfl,_,hw⟩:=DataW.trod_int o ht;exact .one (.i k m hw) (.ex _) rfl
  .rename_i o;cases h;obtain⟨b,rfl,_⟩:=DataW.trod_bool o ht;exact .one (.b b) (.ex _) rfl
  .rename_i o;cases h;obtain⟨⟨a⟩,rfl,_,hs⟩:=DataW.trod_string o ht;exact .one (.s a.toList (by simpa[ByteArray.size] using hs)) (.ex _) rfl
  .rename_i e o;split at h
   .rename_i r L;split at h
    .rename_i A;cases h;rw[zam]at A;obtain⟨M,N⟩:=And.intro (zai A.1) (gj A.2);rcases open_slice o ht with⟨rfl,_⟩|⟨a,len,cap,m,O,D0,Pl,rfl,hb,hl,hm,B,hx,hi⟩
     .exact .one (.sl r [] (zdo _) (λ_ h=>by cases h) (λ_ h=>by cases h)) (.nil _ _) rfl
     .simp only[zce]at B;subst B;obtain⟨F,y⟩:=choose_lt (n:=m) (p:=λi (ds:LQ D)=>ds.length=r.length/\∀(j:Nat) g d,r[j]?=some g->ds[j]?=some d->∃c,w.cell? (a.add (i*r.length+j))=some c/\ka g d/\cq lim w d c/\c.oneCell'=true) (λi hi'=>by
       obtain⟨v,h1,h2⟩:=hi i hi';obtain⟨ds,G,k2,k3⟩:=yE J n e r L O v _ h2;obtain⟨_,h3,h4⟩:=World.cells?_some h1;refine⟨ds,G,λj g d Q C=>?_⟩;have R:j<r.length:=(zad.1 Q).1;have S:v[j]?=some (v[j]'(by omega)):=zaf (by omega);refine⟨v[j]'(by omega),?_,k3 j g d _ Q C S⟩;rw[←S,←h4 j (by omega),←M,Go.Deep.add_add])
      have Gb:ka (.sl r) (.sl r.length ((List.range len).map F)):=by
       refine .sl r _ (by simp;omega) (λrow E=>?_) λrow E i g d hs C=>?_
       .obtain⟨i,W,rfl⟩:=zck.1 E;exact(y i (by have:=List.mem_range.1 W;omega)).1
       .obtain⟨I,W,rfl⟩:=zck.1 E;obtain⟨c,_,hh,_⟩:=(y I (by have:=List.mem_range.1 W;omega)).2 i g d hs C;exact hh
      refine .one Gb ?_ rfl;rcases Nat.eq_zero_or_pos m with h0|h0
      .subst h0;have:len=0:=by omega
       subst this;exact .nil _ _
      .have l:a.spot=none:=by
        obtain⟨v,h1,h2⟩:=hi 0 h0;obtain⟨_,h3,h4⟩:=World.cells?_some h1;have z:=h4 0 (by omega);have h6:v[0]?=some (v[0]'(by omega)):=zaf (by omega);rw[h6]at z;unfold World.cell? at z;split at z
        .split at z
         .cases z
         .rename_i T;simpa[Addr.add] using T
        .cases z
       obtain⟨b,off,sp⟩:=a;simp only at l;subst l;have Y:∀i j,i<m->j<r.length->∀g d,r[j]?=some g->(F i)[j]?=some d->∃c,w.cell? ⟨b,off+(i*r.length+j),none⟩=some c/\ka g d/\cq lim w d c/\c.oneCell'=true:=λi j hi' Q g d hs C=>by
        obtain⟨c,h1,h2⟩:=(y i hi').2 j g d hs C;rw[Addr.add_lit]at h1;exact⟨c,h1,h2⟩
       have H:((List.range len).map F).length=len:=by simp
       have key:=cq.sl (lim:=lim) (w:=w) r.length ((List.range len).map F) b off m (by rw[H];exact hl) (λrow E=>by
        obtain⟨i,W,rfl⟩:=zck.1 E;exact(y i (by have:=List.mem_range.1 W;omega)).1) (λk hk=>by
        rw[H]at hk;have Z:k / r.length<len:=zdg (by rw[zda];exact hk);have U:k % r.length<r.length:=zdq _ N;obtain⟨c,h1,h2,h3,h4⟩:=Y (k / r.length) (k % r.length) (by omega) U _ _ (zaf U) (zaf (by rw[(y _ (by omega)).1];exact U));have e:k / r.length*r.length+k % r.length=k:=by rw[zda];exact zeg k r.length
        rw[e]at h1;exact⟨J _ _ _ h1,c,h1,h4⟩) (λi j row c u h1 h2 h3=>by
        rw[zau]at h1;obtain⟨I,W,rfl⟩:=zcp.1 h1;have jw:i<len:=by have:=(zad.1 W).1;simpa using this
        have:I=i:=by rw[List.getElem?_range jw]at W;cases W;rfl
        subst this;have R:j<r.length:=by have:=(zad.1 h2).1;rw[(y _ (by omega)).1]at this;exact this
        obtain⟨c',G,k2,k3,k4⟩:=Y I j (by omega) R _ _ (zaf R) h2;rw[h3]at G;cases G;exact k3)
       rw[H]at key;exact key
    .cases h
   .cases h
  .rename_i fs o;split at h
   .rename_i r L;split at h
    .rename_i A;cases h;have S:=zai A;obtain⟨ys,O,_,hy,H,vE,hf⟩:=DataW.trod_struct o ht;have:=C8 (lim:=lim) (w:=w) (P:=P) cs fs.toList 0 _ L (by omega) λi f hi r' V Ku=>by
      have h1:=hf i f (by simpa using hi);have X:ys[i]?=some (ys[i]'(by have:=(zad.1 hi).1;simp at this;omega)):=zaf _;exact yE J n f.type r' V O _ _ (h1.trans X)
     simpa using this
    .cases h
   .cases h
  .cases h
end opening
end Go.Abs
namespace Go.Abs
open Go.RowKit Go.ChangeShapes Go.WideShapes Go.Deep Go.ChangeAt
def limW(w:uC)(b:Nat):Nat:=match w.heap[b]? with
 | some (.cells c _ _)=>c.size
 | _=>0
def limW_lt w(b off) u(h:w.cell? ⟨b,off,none⟩=some u):off<limW w b:=by
 unfold World.cell? at h;unfold limW;split at h
 .rename_i c e k H;simp only at H;rw[H];simp only[Option.isSome_none,zay,zbq]at h;exact(zbe.1 h).1
 .cases h
def Ue{α:Type}{row}{p:α->Prop}:∀{rows:LQ (LQ D)},(∀r,r∈rows->∃x,p x/\r=row x)->∃l:LQ α,rows=l.map row/\∀x,x∈l->p x
 | [],_=>⟨[],rfl,λx h=>by cases h⟩
 | r::rows,h=>by
  obtain⟨x,hx,rfl⟩:=h r zal;obtain⟨l,rfl,hl⟩:=Ue (rows:=rows) (row:=row) (p:=p) λH a=>h H (zak _ a)
  exact⟨x::l,rfl,λy hy=>by rcases zao.1 hy with rfl|hy;exact hx;exact hl y hy⟩
def ka.sl_inv{row d}(h:ka (.sl row) d):∃rows,d=.sl row.length rows/\rows.length<=maxLen/\∀r,r∈rows->r.length=row.length/\∀(i:Nat) s d,row[i]?=some s->r[i]?=some d->ka s d:=by
 cases h with
 | sl _ rows hn h1 h=>exact⟨rows,rfl,hn,λr H=>⟨h1 r H,h r H⟩⟩
def ka.i_inv{d}(h:ka (.i .i64) d):∃n:Int,d=.ex (.int .i64 n)/\-9223372036854775808<=n/\n<=9223372036854775807:=by
 cases h with
 | i _ n hw=>simp only[Lit.wf,zam,zcc]at hw;exact⟨n,rfl,hw⟩
def ka.s_inv'{d}(h:ka .s d):∃l:LQ uA,d=.ex (.string ⟨l.toArray⟩)/\l.length<=maxLen:=by cases h with|s l h=>exact⟨l,rfl,h⟩
def Pv{α:Type}{row}{p:α->Prop}{rows:LQ (LQ D)}(h:∀r,r∈rows->∃x,r=row x/\p x):∃l:LQ α,rows=l.map row/\∀x,x∈l->p x:=
 Ue λr H=>let⟨x,h1,h2⟩:=h r H;⟨x,h2,h1⟩
def ka.sl_of{s d}{α:Type}{row}{p:α->Prop}(h:ka (.sl s) d)
  (a:∀r:LQ D,r.length=s.length->(∀(i:Nat) h d,s[i]?=some h->r[i]?=some d->ka h d)->∃x,r=row x/\p x) :
  ∃l:LQ α,d=.sl s.length (l.map row)/\l.length<=maxLen/\∀z,z∈l->p z:=by
 obtain⟨rows,rfl,hn,h2⟩:=h.sl_inv;obtain⟨l,rfl,hl⟩:=Pv (row:=row) (p:=p) λr H=>a r (h2 r H).1 (h2 r H).2
 exact⟨l,rfl,by simpa using hn,hl⟩
theorem ofI r(h1:r.length=1)(h2:∀(i:Nat) s d,[.i .i64][i]?=some s->r[i]?=some d->ka s d):∃x:Int,r=rI x/\-9223372036854775808<=x/\x<=9223372036854775807:=by
 match r,h1 with
 | [d],_=>obtain⟨a,rfl,k⟩:=(h2 0 _ d rfl rfl).i_inv;exact⟨a,rfl,k⟩
theorem ofS r(h1:r.length=1)(h2:∀(i:Nat) h d,[.s][i]?=some h->r[i]?=some d->ka h d):∃x:List uA,r=rS x/\x.length<=maxLen:=by
 match r,h1 with
 | [d],_=>obtain⟨a,rfl,k⟩:=(h2 0 _ d rfl rfl).s_inv';exact⟨a,rfl,k⟩
theorem ofB8 r(h1:r.length=1)(h2:∀(i:Nat) s d,[.i .u8][i]?=some s->r[i]?=some d->ka s d):∃x:uA,r=eW x/\True:=by
 match r,h1 with
 | [d],_ =>
  have h:=h2 0 _ d rfl rfl;cases h with
  | i _ n hw =>
   simp[Lit.wf,IntKind.min,IntKind.max,IntKind.signed,IntKind.bits]at hw;refine⟨UInt8.ofNat n.toNat,?_,trivial⟩;have:((UInt8.ofNat n.toNat).toNat:Int)=n:=by simp[zer];omega
   unfold eW;rw[this]
section top
variable {H:Type}{enc:uE×uB->H}{P:uG}{w:uC}{held:Bool}{r:Reach}{b0:Nat}{t:uE}{v:uB}{d:DataW H}{ps:LQ MemPlace}
def top_agg{n I f}(hs:shape P n t=some I)(ht:P.underlying t=some (.struct f))(hv:Value.okWide P w r b0 t v)(h:DataW.Trod enc P w 0 (λ_=>true) held t v d ps):
  ∃x:LQ D,x.length=I.length/\(∀(i:Nat) s d,I[i]?=some s->x[i]?=some d->ka s d)/\cq (limW w) w (.agg x) v:=by
 obtain⟨cs,rfl,_⟩:=okWide_struct ht hv;obtain⟨fuel,a⟩:=h;obtain⟨ds,h1,h2,h3⟩:=yE (limW_lt w) n t _ hs fuel _ _ a;have g:cs.size=I.length:=by simpa[Value.cells] using h2
 refine⟨ds,h1,λi s d hi b=>?_,.agg ds cs (by omega) (λi u H=>?_) λi c u e H=>?_⟩
 .have j:i<cs.size:=by have:=(zad.1 hi).1;omega
  exact(h3 i s d cs[i] hi b (by simp[Value.cells,j])).1
 .have j:i<I.length:=by have:=(zbe.1 H).1;omega
  exact(h3 i I[i] (ds[i]'(by omega)) u (zaf j) (zaf (by omega)) (by simpa[Value.cells] using H)).2.2
 .have j:i<I.length:=by have:=(zbe.1 H).1;omega
  exact(h3 i I[i] c u (zaf j) e (by simpa[Value.cells] using H)).2.1
def top_str(ht:P.underlying t=some .string)(hv:Value.okWide P w r b0 t v)(h:DataW.Trod enc P w 0 (λ_=>true) held t v d ps):∃l:LQ uA,cq (limW w) w (.ex (.string ⟨l.toArray⟩)) v/\l.length<=maxLen:=by
 obtain⟨a,rfl⟩:=okWide_string ht hv;obtain⟨fuel,H⟩:=h;obtain⟨b,h1,_,hs⟩:=DataW.trod_string ht H;have h2:[Value.string a]=[Value.string b]:=h1;simp only[List.cons.injEq,Value.string.injEq,and_true]at h2;subst h2;exact⟨a.data.toList,.ex _,by rw[zbx];exact hs⟩
end top
end Go.Abs
