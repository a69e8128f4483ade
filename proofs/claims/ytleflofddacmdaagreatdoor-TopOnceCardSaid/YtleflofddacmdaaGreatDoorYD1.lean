/- Our own texts of this seat. -/
import Derived.Test.YtleflofddacmdaaGreatDoorYD0
import Derived.ChangeKeysEq
import Derived.Laws.MakeOwn
import Derived.Lib.AppendZerosOnto
import Derived.WalkKit
import Derived.Lib.Walk
import Derived.Shelf.RegionOpenPlain
import Derived.Lib.Overlaps
import Derived.Lib.SliceRun
import Derived.Lib.JoinLaws
import Derived.RangeFuncLeaves
import Derived.RangeFuncRecord
import Derived.Test.YtleflofddacmdaaGreatDoorProg
set_option linter.all false
set_option maxRecDepth 100000
set_option maxHeartbeats 1000000
namespace Go.Abs
open Go.RowKit
section drawn
variable {P:uG}{f:Ctx}{N:Nat}{S:Start}{Q:EV->St->Prop}{k:List Item}
def OpE(P:uG)(base:Nat)(l:List Oper)(env:Env)(st:St)(o:Oper)(x:EV)(st':St):=
 st'=st/\uR P l env st o x∨o.guard=none/\uL P base env st o x st'∨o.guard=none/\x=.d .any/\ID P base env st o st'
def Ni{l p env xs}(F:(Nat->Bool)->St->Prop)(hp:p<=l.length)(hxp:xs.length=p)
  (hC1:∀i j t,i<p->j<p->i≠j->bW l i=some t->bW l j≠some t)
  (hC2:∀i o,i<p->l[i]?=some o->∀t∈xr l o,∀j,j<p->j≠i->bW l j=some t->j<i/\((cn l []).getD i 0).testBit j=true∨i<j/\((cn l []).getD j 0).testBit i=true)
  (PV:∀i,p<=i->i<l.length->∀j,j<i->((cn l []).getD i 0).testBit j=true)
  (qZ:∀i o,l[i]?=some o->∀e∈o.after,Region.binds .any e=true->e.on<i)
  (j6:∀L st i o,i<p->l[i]?=some o->L i=false->(∀j,((cn l []).getD i 0).testBit j=true->L j=true)->(∀a,L a=true->∀b,((cn l []).getD a 0).testBit b=true->L b=true)->F L st ->
   eE N o.dst=true/\∃x st',xs[i]?=some x/\OpE P S.base l (jJ l o (eo env ((l.take p).take i) (xs.take i))) st o x st'/\F (λj=>j==i || L j) st')
  (Fb:∀L st,(∀i,i<p->L i=true)->F L st->bO P f N S Q l (l.drop p) k (eo env (l.take p) xs) st) :
  ∀(Bz H t) (listed) (g) (w) (tmps) (st),F (λi=>listed.getD i false) st->listed.size=l.length->tW l listed->(∀i,p<=i->i<l.length->listed.getD i true=false) ->
   ((List.range p).filter λi=>!listed.getD i true).length=Bz->Bz+(l.length-p)<=H->Inv g S.base w st->rk S g w st->tmps.size=N ->
   (∀s,(∀j x,j<p->listed.getD j false=true->bW l j=some s->xs[j]?=some x->∃v,tmps[s]?=some v/\aY g w st x v) /\
    ((∀j,j<p->listed.getD j false=true->bW l j≠some s)->∀y,lookup s env=some y->∃v,tmps[s]?=some v/\aY g w st y v)) ->
   bT P f (mh S Q) (.inRegion l.toArray (Region.linearise.go .any l.toArray H t listed [])::k) tmps w:=by
 have uP:xs.length=(l.take p).length:=by grind
 have hxl':=hxp;intro Bz
 induction Bz with
 | zero =>
  intro H t listed g w tmps st hF hs jF hsu Gi Gj q hh hN T;have jb:∀i,i<p->listed.getD i true=true:=by
   simp_all
  have hgo:=yJ PV qZ H t p listed (zag _) hp (by omega) hs (λi hi=>by
   grind)
  rw[hgo];have Bf:(l.drop p).length=l.length-p:=by simp
  rw[←Bf];have Gk:∀i,i<p->listed.getD i false=true:=λi hi=>by
   have:=jb i hi;have Z:i<listed.size:=by omega
   grind
  refine Fb _ st Gk hF p (λj=>by rw[zbd]) g w tmps q hh (λs y hy=>?_) hN;rcases iF uP hy with⟨j,o,h1,h2,h3⟩|⟨h1,h2⟩
  .have A:j<p:=by have:=(zad.1 h2).1;omega
   have ho:l[j]?=some o:=by rw[zah]at h1;rw[zab A]at h1;exact h1
   exact(T s).1 j y A (Gk j A) (by simp[bW,ho,h3]) h2
  .refine(T s).2 (λj A _ hd=>?_) y h2;cases ho:l[j]? with
   | none=>grind
   | some o=>exact h1 j o (by rw[zah,zab A];exact ho) (by simpa[bW,ho] using hd)
 | succ Bz ih =>
  intro H t listed g w tmps st hF hs jF hsu Gi Gj q hh hN T;obtain⟨H,rfl⟩:∃n,H=n+1:=⟨H-1,by omega⟩
  -- an operation of the beginning that has not come up
  have hex:∃i,i<p/\listed.getD i true=false:=by
   have:(List.range p).filter (λi=>!listed.getD i true)≠[]:=λh=>by rw[h]at Gi;grind
   obtain⟨i,hi⟩:=List.exists_mem_of_ne_nil _ this;rw[zcx,List.mem_range]at hi
   grind
  have hDF:∀i,i<l.length->listed.getD i false=listed.getD i true:=λi hi=>by
   have Z:i<listed.size:=by omega
   grind
  have wM:((List.range l.toArray.size).filter λi=>!listed.getD i true && ((l.toArray[i]?).map (·.after.all λe=>!Region.binds .any e || listed.getD e.on false)).getD false)=Region.ready .any l.toArray listed:=rfl
  -- the least such is ready
  have dz:Region.ready .any l.toArray listed≠[]:=by
   have IQ:∀n i,i<=n->i<p->listed.getD i true=false->∃i,i<p/\listed.getD i true=false/\∀j,j<i->listed.getD j true=true:=by
    intro n
    induction n with
    | zero=>grind
    | succ n ihn =>
     grind
   obtain⟨i0,h0,h1⟩:=hex;obtain⟨i,KF,RW,mH⟩:=IQ i0 i0 (zag _) h0 h1;have U:i<l.length:=by omega
   have:i∈Region.ready .any l.toArray listed:=by
    rw[mem_ready];refine⟨RW,l[i],by simp[U],λe G z=>?_⟩;have Z:=qZ i l[i] (zaf U) e G z;rw[hDF _ (by omega)]
    grind
   grind
  simp only[Region.linearise.go,wM];have hlen:0<(Region.ready .any l.toArray listed).length:=zcn.2 dz;have xq:=zdq t hlen;generalize hi:(Region.ready .any l.toArray listed)[t % (Region.ready .any l.toArray listed).length]=i;have wN:(Region.ready .any l.toArray listed)[t % (Region.ready .any l.toArray listed).length]?=some i:=by rw[zaf xq,hi]
  rw[wN];simp only[];rw[linearise_go_acc];have Wz:i∈Region.ready .any l.toArray listed:=zav wN;obtain⟨RW,o,ho,jb⟩:=mem_ready.1 Wz;have I:l[i]?=some o:=by grind
  have U:=(zad.1 I).1;have sg:=pr jF I (λe G z=>jb e G z);have KF:i<p:=by
   grind
  obtain⟨hd,x,st',hx,C,hF'⟩:=j6 _ st i o KF I (by grind) sg (λa ha b z=>by
   have V:=sf jF l [] (by simp) (by simp);have W:(cn l [])[a]?=some ((cn l []).getD a 0):=by
    cases hm:(cn l [])[a]? with
    | none=>rw[zbm,hm]at z;simp at z
    | some m=>rw[zbm,hm];rfl
   exact V a _ W ha b z) hF
  have hFn:(λj=>(listed.setIfInBounds i true).getD j false)=λj=>j==i || listed.getD j false:=by
   funext j;by_cases r:j=i
   .subst r;simp[zba,hs,U]
   .rw[getD_set_ne false (zcq r)];simp[r]
  have V:=sf jF l [] (by simp) (by simp)
  -- what the operation looks at
  have G:cT g w st (jJ l o (eo env ((l.take p).take i) (xs.take i))) tmps:=by
   intro s y hy;obtain⟨M3,F8⟩:=se hy;rcases iF (by simp[uP]) F8 with⟨j,o',h1,h2,h3⟩|⟨h1,h2⟩
   .have r:j<i:=by have:=(zad.1 h2).1;grind
    have M:l[j]?=some o':=by
     rw[zah,zab r,zah,zab (by omega)]at h1;exact h1
    have J:bW l j=some s:=by simp[bW,M,h3]
    rcases hC2 i o KF I s M3 j (by omega) (by omega) J with⟨_,z⟩|⟨Z,_⟩
    .exact(T s).1 j y (by omega) (sg j z) J (by rw[zah,zab r]at h2;exact h2)
    .omega
   .refine(T s).2 (λj A K J=>?_) y h2;by_cases r:j=i
    .grind
    .rcases hC2 i o KF I s M3 j A r J with⟨Z,_⟩|⟨Z,z⟩
     .cases M:l[j]? with
      | none=>grind
      | some o'=>exact h1 j o' (by rw[zah,zab Z,zah,zab A];exact M) (by simpa[bW,M] using J)
     .have Px:j<l.length:=by omega
      have W:(cn l [])[j]?=some ((cn l []).getD j 0):=by
       cases hm:(cn l [])[j]? with
       | none=>rw[zbm,hm]at z;simp at z
       | some m=>rw[zbm,hm];rfl
      have:=V j _ W K i z;rw[hDF i U,RW]at this;cases this
  -- what remains behind it
  have Jx:((List.range p).filter λj=>!(listed.setIfInBounds i true).getD j true).length=Bz:=by
   have rp:∀j,(listed.setIfInBounds i true).getD j true=(listed.getD j true || decide (j=i)):=by
    intro j;by_cases r:j=i
    .subst r;simp[zba,hs,U]
    .rw[getD_set_ne true (zcq r)];simp[r]
   have PY:((List.range p).filter λj=>!(listed.setIfInBounds i true).getD j true)=((List.range p).filter λj=>!listed.getD j true).filter λj=>!decide (j=i):=by
    rw[zfj];refine zdx λj _=>?_
    rw[rp j];cases listed.getD j true<;>simp
   rw[PY];have hnd:((List.range p).filter λj=>!listed.getD j true).Nodup:=List.nodup_range.filter _;have s6:i∈(List.range p).filter λj=>!listed.getD j true:=by rw[zcx,List.mem_range];grind
   have Aq:∀(L:LQ Nat),L.Nodup->i∈L->(L.filter λj=>!decide (j=i)).length+1=L.length:=by
    intro L
    induction L with
    | nil=>grind
    | cons a L ihL =>
     intro hn hm;rw[zbz]at hn;by_cases ha:a=i
     .subst ha;have:(L.filter λj=>!decide (j=a))=L:=by
       rw[zdc]
       grind
      rw[zby]
      grind
     grind
   have:=Aq _ hnd s6;omega
  have WA:tW l (listed.setIfInBounds i true):=by
   intro j oj M K e Ah z;by_cases r:j=i
   .subst r;rw[I]at M;cases M;exact getD_set_true (jb e Ah z)
   .rw[getD_set_ne false (zcq r)]at K;exact getD_set_true (jF j oj M K e Ah z)
  have WC:∀j,p<=j->j<l.length->(listed.setIfInBounds i true).getD j true=false:=λj A Px=>by rw[getD_set_ne true (by omega)];grind
  -- the step
  have next:∀(g':eI) (w':uC) (v:uB),aY g' w' st' x v->Inv g' S.base w' st'->Step S.base g w st g' w' st' ->
    bT P f (mh S Q) (.inRegion l.toArray (Region.linearise.go .any l.toArray H (t / (Region.ready .any l.toArray listed).length) (listed.setIfInBounds i true) [])::k) (Act.put ⟨tmps,[]⟩ o.dst v).tmps w':=by
   intro g' w' v Dl cG O;refine ih H _ _ _ w' _ st' (by rw[hFn];exact hF') (by grind) WA WC Jx (by omega) cG (hh.step O) (by rw[fX];exact hN) λs=>⟨λj y A K J hy=>?_,λEJ y hy=>?_⟩
   .by_cases r:j=i
    .subst r;have M4:o.dst=some s:=by simpa[bW,I] using J
     rw[hx]at hy;cases hy;rw[M4];have dE:s<tmps.size:=by
      rw[M4]at hd;have Uo:s+1<=N:=zae hd;rw[hN];exact Uo
     exact⟨v,by simp[Act.put,dE],Dl⟩
    .rw[getD_set_ne false (zcq r)]at K;obtain⟨u,h1,h2⟩:=(T s).1 j y A K J hy;have mJ:o.dst≠some s:=λe=>hC1 j i s A KF r J (by simp[bW,I,e])
     refine⟨u,?_,h2.mono O.cU⟩;cases WD:o.dst with
     | none=>exact h1
     | some d =>
      have:d≠s:=λe=>mJ (by rw[WD,e])
      simp[Act.put,zcv,this,h1]
   .have mJ:o.dst≠some s:=λe=>EJ i KF (by simp[zba,hs,U]) (by simp[bW,I,e])
    obtain⟨u,h1,h2⟩:=(T s).2 (λj A K=>EJ j A (by
     by_cases r:j=i
     .grind
     .rw[getD_set_ne false (zcq r)];exact K)) y hy
    refine⟨u,?_,h2.mono O.cU⟩;cases WD:o.dst with
    | none=>exact h1
    | some d =>
     have:d≠s:=λe=>mJ (by rw[WD,e])
     simp[Act.put,zcv,this,h1]
  have X:l.toArray[i]?=some o:=ho;show bT P f (mh S Q) (.inRegion l.toArray (i::_)::k) tmps w;have xB:st'=st->∀(B:Nat->Nat) (w':uC) (v:uB),Good g w st x B w' v ->
    bT P f (mh S Q) (.inRegion l.toArray (Region.linearise.go .any l.toArray H (t / (Region.ready .any l.toArray listed).length) (listed.setIfInBounds i true) [])::k) (Act.put ⟨tmps,[]⟩ o.dst v).tmps w':=by
   rintro rfl B w' v ⟨Dl,z,hl⟩;obtain⟨cG,O⟩:=q.grow (g':={ g with lim:=B }) z hl rfl rfl
   grind
  rcases C with⟨Ut,C⟩|⟨Y,C⟩|⟨Y,rfl,C⟩
  .rcases C with⟨Y,C⟩|⟨j,want,tt,c,b,y,env',Y,A,hlk,hgc,rfl,hE,C⟩
   .have E:Region.wanted o (yielded l.toArray tmps)=true:=by simp[Region.wanted,Y]
    rcases C g S.base w tmps q G with⟨v,B,w',D,xt⟩|⟨f',args,D,hc⟩
    .exact bT.value X E D (xB Ut B w' v xt)
    .exact bT.call X E D (hc.mono λe w' ⟨v,B,h1,h2⟩=>⟨v,h1,xB Ut B w' v h2⟩)
   .obtain⟨u,hu,hur⟩:=G tt c hlk;have E:Region.wanted o (yielded l.toArray tmps)=b:=by
     rw[←rO hgc hur];have tU:((l.toArray)[j]?).bind (·.dst)=some tt:=by grind
     simp only[Region.wanted,Y,yielded,tU,zac,hu];cases u<;>rfl
    cases b with
    | false=>exact bT.rW X E (xB Ut g.lim w undef ⟨.gd _ _ _ (λ_=>rfl) (λh=>by cases h),.refl _ _,λ_ _=>rfl⟩)
    | true =>
     have R:∀B w' v,Good g w st y B w' v->Good g w st (.gd true y) B w' v:=λB w' v ⟨a,b,c⟩=>⟨.gd _ _ _ (λh=>by cases h) (λ_=>a),b,c⟩
     rcases C rfl g S.base w tmps q (G.gd hE rfl)with⟨v,B,w',D,xt⟩|⟨f',args,D,hc⟩
     .exact bT.value X E D (xB Ut B w' v (R _ _ _ xt))
     .exact bT.call X E D (hc.mono λe w' ⟨v,B,h1,h2⟩=>⟨v,h1,xB Ut B w' v (R _ _ _ h2)⟩)
  .have E:Region.wanted o (yielded l.toArray tmps)=true:=by simp[Region.wanted,Y]
   obtain⟨v,g',w',D,Dl,cG,O⟩:=C g w tmps q G;exact bT.value X E D (next g' w' v Dl cG O)
  .have E:Region.wanted o (yielded l.toArray tmps)=true:=by simp[Region.wanted,Y]
   obtain⟨g',w',D,cG,O⟩:=C g w tmps q G;exact bT.skip X E D (next g' w' undef (.d _ _ (.any _)) cG O)
def aE.WY{id l env st} p xs(F:(Nat->Bool)->St->Prop)(hm:P.follows .mixedOrders=true)(v:dB l p=true)(d:xs.length=p)(m:F (λ_=>false) st)
  (A:∀L st i o,i<p->l[i]?=some o->L i=false->(∀j,((cn l []).getD i 0).testBit j=true->L j=true)->(∀a,L a=true->∀b,((cn l []).getD a 0).testBit b=true->L b=true)->F L st ->
   eE N o.dst=true/\∃x st',xs[i]?=some x/\OpE P S.base l (jJ l o (eo env ((l.take p).take i) (xs.take i))) st o x st'/\F (λj=>j==i || L j) st')
  (C:∀L st,(∀i,i<p->L i=true)->F L st->bO P f N S Q l (l.drop p) k (eo env (l.take p) xs) st):aE P f N S Q (.code (.region id l.toArray true)::k) env st:=by
 simp only[dB,zam]at v;obtain⟨⟨⟨⟨V,n⟩,q⟩,r⟩,D⟩:=v;have E:p<=l.length:=by simp_all
 intro g w tmps H G I hn;refine bT.vH λt=>?_
 have J:Region.schedule (P.follows .mixedOrders) l.toArray t=Region.linearise .any l.toArray t:=by simp[Region.schedule,hm]
 rw[J];have K:Below w.heap.size w { w with drawn:=w.drawn+1 }:=(Below.refl _ w).drew;obtain⟨M,z⟩:=H.grow (g':=g) K (λ_ _=>rfl) rfl rfl;unfold Region.linearise;refine Ni (p:=p) (xs:=xs) F E d ?_ ?_ ?_ ?_ A C p _ t _ g _ tmps st (by
  have:(λi=>(Array.replicate l.toArray.size false).getD i false)=λ_=>false:=by
   funext i;simp[zba,Array.getElem?_replicate];split<;>rfl
  rw[this];exact m) (by simp) ?_ ?_ ?_ ?_ M (G.step z) hn λs=>⟨λj x h B=>?_,λ_ y hy=>?_⟩
 .intro i j t hi h T O R;have:=bq (bq n hi) h;simp_all
 .intro i o hi c t ht j h W R;have h1:=bq V hi;rw[c]at h1;simp only[zbf]at h1;have h2:=bq (h1 t ht) h
  grind
 .intro i hi u j h;have h1:=bq q u;simp only[zcj,zcc]at h1;rcases h1 with h1|h1
  .omega
  .exact bq h1 h
 .intro i o c e X Y;have u:=(zad.1 c).1;have h1:=bq r u;rw[c]at h1
  grind
 .intro i o c U;simp[zba,Array.getElem?_replicate]at U;split at U<;>simp_all
 .simp_all
 .have:((List.range p).filter λi=>!(Array.replicate l.toArray.size false).getD i true)=List.range p:=by
   rw[zdc];intro i hi;have hi':=List.mem_range.1 hi;have:i<l.length:=by omega
   simp_all
  rw[this];simp
 .grind
 .simp[zba,Array.getElem?_replicate]at B;split at B<;>simp_all
 .exact(I.mono z.cU) s y hy
end drawn
structure sx(P:uG)(key:uE)(κ:Type)[BEq κ][LawfulBEq κ] where
 ke:κ->uB
 find:∀{α:Type} (k:κ) (l:List (κ×α)) (ms:List MapEntry) (w:uC),ms.map (·.key)=l.map (λp=>ke p.1) ->
  (Instr.findKey key (ke k) ms).run P w=.ok ((dL l k).bind λj=>(ms[j]?).map λm=>(j,m.val)) w
 bits:∀a,Instr.sameBits 10000 (ke a) (ke a)=true
 check:∀a b w,(Instr.checkKey b 10000 key (ke a)).run P w=.ok () w
def BE.toF{P key κ}[BEq κ][LawfulBEq κ](K:BE P key κ):sx P key κ where
 ke:=K.ke
 find k l ms w h:=M5 K k h w
 bits:=K.bits
 check:=K.check
def eL{P key}(h:P.underlying key=some (.int .i64)):sx P key Int:=(intKeys h).toF
def Nj{P key}(h:P.underlying key=some .string):sx P key (List uA):=(strKeys h).toF
def dm{lim w u v}(h:cq lim w (.ex u) v):v=u:=by cases h;rfl
def fZ{κ:Type}(ke:κ->uB)(l:List (κ×EV)):= l.map λp=>(ke p.1,p.2)
def WZ{κ α:Type}(val:α->D)(l:List (κ×α)):List (κ×EV):=l.map λp=>(p.1,.d (val p.2))
def FE{κ α ke val}{l:LQ (κ×α)}:iP ke val l=fZ ke (WZ val l):=by
 simp[iP,fZ,WZ]
section alist
variable {κ α β:Type}[BEq κ][LawfulBEq κ]
def eG(l:List (κ×α))(k:κ):List (κ×α):=match dL l k with
 | some j=>l.eraseIdx j
 | none=>l
def JC(f:α->β) l(k:κ):dL (l.map λp=>(p.1,f p.2)) k=dL l k:=by
 unfold dL;rw[List.findIdx?_map];rfl
def UC(f:α->β) l(k:κ):ak (l.map λp=>(p.1,f p.2)) k=(ak l k).map f:=by
 rw[kR,kR,JC];cases dL l k with
 | none=>rfl
 | some j=>grind
def W0(f:α->β) l(k:κ)(a):cQ (l.map λp=>(p.1,f p.2)) k (f a)=(cQ l k a).map λp=>(p.1,f p.2):=by
 unfold cQ;rw[JC];cases dL l k with
 | none=>simp
 | some j=>simp_all
def BJ:∀{l} {k:κ} {a:α},(l.map (·.1)).Nodup->(k,a)∈l->ak l k=some a
 | [],_,_,_,h=>by cases h
 | p::l,k,a,hn,h=>by
  simp only[zbb,zbz]at hn;unfold ak;rw[List.find?_cons];rcases zao.1 h with rfl|h
  .simp
  .have d:(k==p.1)=false:=by
    rw[Bool.eq_false_iff]
    grind
   rw[d];exact BJ hn.2 h
def Gx{l:LQ (κ×α)}{k}(h:k ∉ l.map (·.1)):ak l k=none:=by
 unfold ak;rw[List.find?_eq_none.2]
 .rfl
 grind
def Qg{l:LQ (κ×α)}{k}(h:k ∉ l.map (·.1)):dL l k=none:=by
 unfold dL;rw[List.findIdx?_eq_none_iff]
 grind
end alist
section inv
variable {P:uG}{base:Nat}{g:eI}{w:uC}{st:St}
def Inv.Qh(hinv:Inv g base w st){o es es'}(J:st.aB[o]?=some (.map es)){ms' clock'}(V:ms'.size=es'.length)
  (k2:∀(i:Nat) k x m,es'[i]?=some (k,x)->ms'[i]?=some m->m.key=k/\aY g w st x m.val)
  (k3:∀(i:Nat) m,ms'[i]?=some m->m.born<clock') (k4:∀(i j:Nat) (m Q),ms'[i]?=some m->ms'[j]?=some Q->m.born=Q.born->i=j) :
  Inv g base { w with heap:=w.heap.setIfInBounds (g.ob o) (.map ms' clock') } (st.set o (.map es'))/\Step base g w st g { w with heap:=w.heap.setIfInBounds (g.ob o) (.map ms' clock') } (st.set o (.map es')):=by
 obtain⟨W,ms,K,R,hl,jv,Sc,Sd⟩:=hinv.map o _ J;have hblk:g.ob o<w.heap.size:=(zbe.1 R).1;have G:∀ob:Obj,({ w with heap:=w.heap.setIfInBounds (g.ob o) ob }:uC).heap.size=w.heap.size:=λob=>by simp
 have v:∀ob:Obj,∀b,b≠g.ob o->({ w with heap:=w.heap.setIfInBounds (g.ob o) ob }:uC).heap[b]?=w.heap[b]?:=λob b l=>by grind
 have X:∀ob:Obj,({ w with heap:=w.heap.setIfInBounds (g.ob o) ob }:uC).heap[g.ob o]?=some ob:=λob=>by grind
 have r:∀off,w.cell? ⟨g.ob o,off,none⟩=none:=λoff=>by simp[World.cell?,R]
 have S:Pw g.lim w g.lim { w with heap:=w.heap.setIfInBounds (g.ob o) (.map ms' clock') }:=by
  refine⟨by rw[G];omega,λ_ _=>zag _,λb off l jx=>?_⟩
  by_cases z:b=g.ob o
  .subst z;rw[r];simp[World.cell?,hblk]
  .exact World.cell?_of_block (w:=w) (a:=⟨b,off,none⟩) (v _ b z)
 have H:st.live o:=⟨_,J,by simp⟩;have p:o<st.aB.length:=(zad.1 J).1;have hs:tR g w st g { w with heap:=w.heap.setIfInBounds (g.ob o) (.map ms' clock') } (st.set o (.map es')) :=
  ⟨S,λ_ _=>rfl,by simp[St.set],λt e sz n ht=>⟨n,ht,zag _,λ_=>rfl⟩,zag _,uK λ_ _ _ _ h _=>⟨h,rfl⟩⟩
 have L:∀o' y,o'≠o->(st.set o (.map es')).aB[o']?=some y->st.aB[o']?=some y:=by
  intro o' y d F;simpa[St.set,zbg,zcq d] using F
 have Y:∀o' y,(st.set o (.map es')).aB[o']?=some (.raw y)->base<=g.ob o'/\g.lim (g.ob o')=0/\(w.heap.setIfInBounds (g.ob o) (.map ms' clock'))[g.ob o']?=some y:=by
  intro o' y f;have d:o'≠o:=by
   rintro rfl;simp[St.set,p]at f
  have F:=L o' _ d f;obtain⟨h1,h2,h3⟩:=hinv.raw o' y F;have I:=hinv.ne o' o d ⟨_,F,by simp⟩ H
  grind
 refine⟨⟨by rw[G];omega,?_,?_,Y,?_,?_,hinv.mo,?_,hinv.tS.below ⟨rfl,rfl,rfl,by rw[G];omega,λb l=>v _ b (by omega)⟩,?_⟩,⟨hs,⟨rfl,rfl,rfl,by rw[G];omega,λb l=>v _ b (by omega)⟩,λ_ _=>rfl,
   λb _ hn=>⟨v _ b (λe=>hn (.inl ⟨o,H,e.symm⟩)),rfl⟩,λb _ Z=>Z.elim (λ⟨o',a1,a2⟩=>.inl ⟨o',qq H a1,a2⟩) .inr⟩⟩
 .intro o' Kw cs f;have d:o'≠o:=by
   rintro rfl;simp[St.set,p]at f
  have F:=L o' _ d f;obtain⟨h1,h2,vs,h3,h4,A⟩:=hinv.row o' Kw cs F;have I:=hinv.ne o' o d ⟨_,F,by simp⟩ H;exact⟨h1,h2,vs,by rw[v _ _ I];exact h3,h4,λi c u T U=>⟨(A i c u T U).1.mono hs,(A i c u T U).2⟩⟩
 .intro o' B f;by_cases d:o'=o
  .subst d;have M:es'=B:=by simpa[St.set,p] using f
   subst M;exact⟨W,ms',clock',X _,V,λi kk C m D E=>⟨(k2 i kk C m D E).1,(k2 i kk C m D E).2.mono hs⟩,k3,k4⟩
  .have F:=L o' _ d f;obtain⟨h1,N,c2,h3,h4,A,h6⟩:=hinv.map o' B F;have I:=hinv.ne o' o d ⟨_,F,by simp⟩ H;exact⟨h1,N,c2,by rw[v _ _ I];exact h3,h4,λi kk C m a b=>⟨(A i kk C m a b).1,(A i kk C m a b).2.mono hs⟩,h6⟩
 .exact λo1 o2 d h1 h2=>hinv.ne o1 o2 d (qq H h1) (qq H h2)
 .intro q e' O P s;obtain⟨xs,h1,h2⟩:=hinv.tail q e' O P s;exact⟨xs,ew h1 λb l=>v _ b λe=>hinv.gh q _ o s H (by rw[l,e]),h2⟩
 .exact λq x' o' s Ku=>hinv.gh q x' o' s (qq H Ku)
 .intro q e' O P rows s;obtain⟨xs,h1,h2,h3⟩:=hinv.own q e' O P rows s;exact⟨xs,ew h1 λb l=>v _ b λe=>hinv.gh q _ o s H (by rw[l,e]),h2,h3.mono S⟩
end inv
section rules
variable {P:uG}{base:Nat}{env:Env}{st:St}{d:Option Tmp}{ty:uE}{pos:String}{after:uD Edge}{gd:Option (Nat×Bool)}{t t2 e key:uE}{x y z:uH}
 {κ α:Type} [BEq κ] [LawfulBEq κ]
def JD{g w st l}{ke:κ->uB}{H:uD MapEntry}(hl:H.size=(fZ ke l).length)
  (h:∀(i:Nat) k x m,(fZ ke l)[i]?=some (k,x)->H[i]?=some m->m.key=k/\aY g w st x m.val):H.toList.map (·.key)=l.map λp=>ke p.1:=by
 apply zbv;intro i;rw[zau,zau];have a:H.size=l.length:=by simpa[fZ] using hl
 by_cases hi:i<l.length
 .have h1:H[i]?=some (H[i]'(by omega)):=zbl (by omega);have h2:l[i]?=some l[i]:=zaf hi;have h3:=(h i (ke l[i].1) l[i].2 _ (by simp[fZ,h2]) h1).1;rw[h2,zcf,h1];simp[h3]
 simp_all
def qw(K:sx P key κ){o l k dk inf zv c}(ht:P.underlying t=some (.map key e))(hi:P.info? e=some inf)(n:inf.zero=some zv)
  (hx:bp env x=some (.mp o)) (p:st.aB[o]?=some (.map (fZ K.ke l))) (hy:bp env y=some (.d dk)) (hk:∀lim w v,cq lim w dk v->v=K.ke k)
  {g} {w} {tmps} (hinv:Inv g base w st) (he:cT g w st env tmps) :
  ∃v,(match ak l k with|some x=>aY g w st x v|none=>v=zv) /\
   ∀w',Below w.heap.size w w'->(execOp (Act.eval ⟨tmps,[]⟩) ⟨d,.lookup t x y c,ty,pos,after,gd⟩).run P w'=.ok (.value (if c then .tuple #[v,.bool (ak l k).isSome]else v)) w':=by
 have D:=aq he hx;generalize hv:Act.eval ⟨tmps,[]⟩ x=v at D;have V:Act.eval ⟨tmps,[]⟩ y=K.ke k:=by
  have:=aq he hy;cases this with|d _ _ h=>grind
 cases D with
 | mp _ s =>
  obtain⟨_,m,H,a,hl,f,_⟩:=hinv.map o _ p;have G:=JD hl f;have hblk:g.ob o<w.heap.size:=(zbe.1 a).1;rw[kR];cases b:dL l k with
  | none =>
   refine⟨zv,rfl,λw' i=>?_⟩;have E:w'.heap[g.ob o]?=some (.map m H):=(i.block _ hblk).trans a;have z:=K.find k l m.toList w' G;rw[b]at z;simp[execOp,hv,V,Instr.lookup,run_underlying ht,getObj,Sem.run,E,K.check,z,ja hi n]
  | some j =>
   have q:=xu b;have hlen:m.size=l.length:=by simpa[fZ] using hl
   have h1:m[j]?=some (m[j]'(by omega)):=zbl (by omega);have h2:l[j]?=some l[j]:=zaf q;have h3:=(f j (K.ke l[j].1) l[j].2 _ (by simp[fZ,h2]) h1).2;simp only[zac,h2,Option.map_some,Option.isSome_some];refine⟨(m[j]'(by omega)).val,h3,λw' i=>?_⟩;have E:w'.heap[g.ob o]?=some (.map m H):=(i.block _ hblk).trans a;have z:=K.find k l m.toList w' G;rw[b]at z;have r:m.toList[j]?=some (m[j]'(by omega)):=by rw[zcf];exact h1
   simp only[zac,r,Option.map_some]at z;simp[execOp,hv,V,Instr.lookup,run_underlying ht,getObj,Sem.run,E,K.check,z]
def Nk{g w st u b c}(h:aY g w st (.d c) u):aY g w st (.d (.dp [c,.ex (.bool b)])) (.tuple #[u,.bool b]):=by
 have h':cq g.lim w c u:=by cases h with|d _ _ h=>exact h
 refine .d _ _ (.dp _ _ rfl ?_);intro i e f H a
 match i with
 | 0=>simp_all
 | 1=>simp at H a;subst H;subst a;exact .ex _
 | n+2=>simp at H
def Gz{val}{l:LQ (κ×α)}{k}:ak (WZ val l) k=(ak l k).map λa=>.d (val a):=UC (λa=>EV.d (val a)) l k
def ki(K:sx P key κ){o l val k dk inf zv}{a0:α}(ht:P.underlying t=some (.map key e))(hi:P.info? e=some inf)(f:inf.zero=some zv)(H:vN (cv zv) (val a0))
  (hx:bp env x=some (.mp o)) (b:st.aB[o]?=some (.map (iP K.ke val l))) (hy:bp env y=some (.d dk)) (hk:∀lim w v,cq lim w dk v->v=K.ke k) :
  aG P env st ⟨d,.lookup t x y false,ty,pos,after,gd⟩ (.d (val ((ak l k).getD a0))):=by
 intro g base w tmps h i;rw[FE]at b;obtain⟨v,h1,h2⟩:=qw (c:=false) (d:=d) (ty:=ty) (pos:=pos) (after:=after) (gd:=gd) K ht hi f hx b hy hk h i;rw[Gz]at h1;refine⟨v,?_,λw' j=>by simp_all⟩;cases hl:ak l k with
 | none=>rw[hl]at h1;simp only[Option.map_none]at h1;subst h1;exact .d _ _ (H _ _ _ (nC g.lim w v))
 | some a=>rw[hl]at h1;exact h1
def jB(K:sx P key κ){o l val k dk inf zv}{a0:α}(ht:P.underlying t=some (.map key e))(hi:P.info? e=some inf)(f:inf.zero=some zv)(H:vN (cv zv) (val a0))
  (hx:bp env x=some (.mp o)) (b:st.aB[o]?=some (.map (iP K.ke val l))) (hy:bp env y=some (.d dk)) (hk:∀lim w v,cq lim w dk v->v=K.ke k) :
  aG P env st ⟨d,.lookup t x y true,ty,pos,after,gd⟩ (.d (.dp [val ((ak l k).getD a0),.ex (.bool (ak l k).isSome)])):=by
 intro g base w tmps h i;rw[FE]at b;obtain⟨v,h1,h2⟩:=qw (c:=true) (d:=d) (ty:=ty) (pos:=pos) (after:=after) (gd:=gd) K ht hi f hx b hy hk h i;rw[Gz]at h1 h2;refine⟨_,?_,h2⟩;rw[zab rfl];cases hl:ak l k with
 | none=>rw[hl]at h1;simp only[Option.map_none]at h1;subst h1;exact Nk (.d _ _ (H _ _ _ (nC g.lim w v)))
 | some a=>rw[hl]at h1;exact Nk h1
def ik(K:sx P key κ){o l l0 k dk ev inf zv}(ht:P.underlying t=some (.map key e))(hi:P.info? e=some inf)(a:inf.zero=some zv)
  (hx:bp env x=some (.mp o)) (b:st.aB[o]?=some (.map (fZ K.ke l))) (H:l.Perm l0) (hn:(l0.map (·.1)).Nodup) (hm:(k,ev)∈l0) (hy:bp env y=some (.d dk)) (hk:∀lim w v,cq lim w dk v->v=K.ke k) :
  aG P env st ⟨d,.lookup t x y true,ty,pos,after,gd⟩ (.dp [ev,.d (.ex (.bool true))]):=by
 intro g base w tmps h f;obtain⟨v,h1,h2⟩:=qw (c:=true) (d:=d) (ty:=ty) (pos:=pos) (after:=after) (gd:=gd) K ht hi a hx b hy hk h f;have hl:ak l k=some ev:=BJ ((H.map _).nodup_iff.2 hn) (H.mem_iff.2 hm);rw[hl]at h1 h2;exact⟨_,tup2 h1 (.d _ _ (.ex _)),h2⟩
def KU(K:sx P key κ){o l l0 k dk inf zv}(ht:P.underlying t=some (.map key e))(hi:P.info? e=some inf)(a:inf.zero=some zv)
  (hx:bp env x=some (.mp o)) (b:st.aB[o]?=some (.map (fZ K.ke l))) (f:l.Perm l0) (hm:k ∉ l0.map (·.1)) (hy:bp env y=some (.d dk)) (hk:∀lim w v,cq lim w dk v->v=K.ke k) :
  aG P env st ⟨d,.lookup t x y true,ty,pos,after,gd⟩ (.dp [.d .any,.d (.ex (.bool false))]):=by
 intro g base w tmps H i;obtain⟨v,h1,h2⟩:=qw (c:=true) (d:=d) (ty:=ty) (pos:=pos) (after:=after) (gd:=gd) K ht hi a hx b hy hk H i;have hl:ak l k=none:=Gx λh=>hm ((f.map _).mem_iff.1 h)
 rw[hl]at h1 h2;exact⟨_,tup2 (.d _ _ (.any _)) (.d _ _ (.ex _)),h2⟩
def xC(K:sx P key κ){o l k dk ev}(ht:P.underlying t=some (.map key e))(hx:bp env x=some (.mp o))(D:st.aB[o]?=some (.map (fZ K.ke l)))
  (hy:bp env y=some (.d dk)) (hk:∀lim w v,cq lim w dk v->v=K.ke k) {g} {w} {tmps} (hinv:Inv g base w st) (he:cT g w st env tmps) (G:aY g w st ev (Act.eval ⟨tmps,[]⟩ z)) :
  ∃w',(Instr.mapUpdate t (Act.eval ⟨tmps,[]⟩ x) (Act.eval ⟨tmps,[]⟩ y) (Act.eval ⟨tmps,[]⟩ z)).run P w=.ok () w'/\Inv g base w' (st.set o (.map (fZ K.ke (cQ l k ev))))/\Step base g w st g w' (st.set o (.map (fZ K.ke (cQ l k ev)))):=by
 have E:=aq he hx;generalize hv:Act.eval ⟨tmps,[]⟩ x=v at E;have V:Act.eval ⟨tmps,[]⟩ y=K.ke k:=by
  have:=aq he hy;cases this with|d _ _ h=>grind
 generalize U:Act.eval ⟨tmps,[]⟩ z=u at G;cases E with
 | mp _ W =>
  obtain⟨X,H,c,A,hl,r,Y,Z⟩:=hinv.map o _ D;have I:=JD hl r;have hblk:g.ob o<w.heap.size:=(zbe.1 A).1;have hlen:H.size=l.length:=by simpa[fZ] using hl
  have n:=K.find k l H.toList w I;have fin:∀(ms':uD MapEntry) (clock':Nat),ms'.size=(cQ l k ev).length ->
    (∀(i:Nat) (p:κ×EV) (m:MapEntry),(cQ l k ev)[i]?=some p->ms'[i]?=some m->m.key=K.ke p.1/\aY g w st p.2 m.val) ->
    (∀(i:Nat) (m:MapEntry),ms'[i]?=some m->m.born<clock')->(∀(i j:Nat) (m F:MapEntry),ms'[i]?=some m->ms'[j]?=some F->m.born=F.born->i=j) ->
    (Instr.mapUpdate t (.map (some (g.ob o))) (K.ke k) u).run P w=.ok () { w with heap:=w.heap.setIfInBounds (g.ob o) (.map ms' clock') } ->
    ∃w',(Instr.mapUpdate t (.map (some (g.ob o))) (Act.eval ⟨tmps,[]⟩ y) u).run P w=.ok () w'/\Inv g base w' (st.set o (.map (fZ K.ke (cQ l k ev))))/\Step base g w st g w' (st.set o (.map (fZ K.ke (cQ l k ev)))):=by
   intro ms' clock' J k2 k3 k4 k5;obtain⟨q1,q2⟩:=hinv.Qh (es':=fZ K.ke (cQ l k ev)) D (ms':=ms') (clock':=clock') (by simpa[fZ] using J) (λi kk yy m B L=>by
    simp only[fZ,zau]at B
    grind) k3 k4
   grind
  cases b:dL l k with
  | none =>
   rw[b]at n;simp only[zfc]at n;have N:cQ l k ev=l++[(k,ev)]:=by unfold cQ;rw[b]
   refine fin (H.push ⟨K.ke k,u,c⟩) (c+1) (by grind) ?_ ?_ ?_ ?_
   .intro i p m a s;rw[N]at a;by_cases hi:i<l.length
    .rw[zaj hi]at a;rw[zee (by omega)]at s;exact r i (K.ke p.1) p.2 m (by simp[fZ,a]) (by rw[zbl (by omega)];exact s)
    grind
   .grind
   .grind
   .simp[Instr.mapUpdate,run_underlying ht,getObj,setObj,Sem.run,A,K.check,n]
  | some j =>
   have M:=xu b;have N:cQ l k ev=l.set j (k,ev):=by unfold cQ;rw[b]
   have O:(k==l[j].1)=true:=by
    unfold dL at b;rw[List.findIdx?_eq_some_iff_getElem]at b
    grind
   have C:k=l[j].1:=eq_of_beq O;have h1:H[j]?=some (H[j]'(by omega)):=zbl (by omega);have Q:H.toList[j]?=some (H[j]'(by omega)):=by rw[zcf];exact h1
   rw[b]at n;simp only[zac,Q,Option.map_some]at n;have q:(H[j]'(by omega)).key=K.ke k:=by
    have:=(r j (K.ke l[j].1) l[j].2 _ (by simp[fZ,zaf M]) h1).1;rw[this,C]
   have R:∀(i:Nat) m,(H.modify j λe=>{ e with key:=K.ke k,val:=u })[i]?=some m->(i=j/\m={ (H[j]'(by omega))with key:=K.ke k,val:=u })∨(i≠j/\H[i]?=some m):=by
    grind
   refine fin (H.modify j λe=>{ e with key:=K.ke k,val:=u }) c (by grind) ?_ ?_ ?_ ?_
   .intro i p m a s;rw[N,zbg]at a;rcases R i m s with⟨rfl,rfl⟩|⟨S,T⟩
    .rw[zab rfl]at a
     grind
    .rw[zaa (zcq S)]at a;exact r i (K.ke p.1) p.2 m (by simp[fZ,a]) T
   .grind
   .grind
   .have f:Instr.sameBits 10000 (K.ke k) (K.ke k)=true:=K.bits k;simp[Instr.mapUpdate,run_underlying ht,getObj,setObj,Sem.run,A,K.check,n,Instr.keyThatStays,h1,q,f]
def KV(K:sx P key κ){o l k dk ev}(ht:P.underlying t=some (.map key e))(hx:bp env x=some (.mp o))(a:st.aB[o]?=some (.map (fZ K.ke l)))
  (hy:bp env y=some (.d dk)) (hk:∀lim w v,cq lim w dk v->v=K.ke k) (b:bp env z=some ev) :
  ID P base env st ⟨d,.mapUpdate t x y z,ty,pos,after,gd⟩ (st.set o (.map (fZ K.ke (cQ l k ev)))):=by
 intro g w tmps h H;obtain⟨w',h1,h2,h3⟩:=xC (z:=z) K ht hx a hy hk h H (aq H b);exact⟨g,w',by simp[execOp,h1],h2,h3⟩
def UD(K:sx P key κ){o l k dk ev}(ht:P.underlying t=some (.map key e))(hx:bp env x=some (.mp o))(a:st.aB[o]?=some (.map (fZ K.ke l)))
  (hy:bp env y=some (.d dk)) (hk:∀lim w v,cq lim w dk v->v=K.ke k) (b:bp env z=some ev) :
  ID P base env st ⟨d,.insert t x y z,ty,pos,after,gd⟩ (st.set o (.map (fZ K.ke (cQ l k ev)))):=by
 intro g w tmps h H;obtain⟨w',h1,h2,h3⟩:=xC (z:=z) K ht hx a hy hk h H (aq H b);exact⟨g,w',by simp[execOp,h1],h2,h3⟩
def eM(K:sx P key κ){o l val k dk}{a:α}{ev}(ht:P.underlying t=some (.map key e))(hx:bp env x=some (.mp o))(H:st.aB[o]?=some (.map (iP K.ke val l)))
  (hy:bp env y=some (.d dk)) (hk:∀lim w v,cq lim w dk v->v=K.ke k) (c:bp env z=some ev) (hle:eB ev (.d (val a))) :
  ID P base env st ⟨d,.mapUpdate t x y z,ty,pos,after,gd⟩ (st.set o (.map (iP K.ke val (cQ l k a)))):=by
 intro g w tmps h b;rw[FE]at H;obtain⟨w',h1,h2,h3⟩:=xC (z:=z) K ht hx H hy hk h b (hle _ _ _ _ (aq b c));have hs:fZ K.ke (cQ (WZ val l) k (.d (val a)))=iP K.ke val (cQ l k a):=by
  rw[FE];unfold WZ;rw[W0 (λa=>EV.d (val a))]
 rw[hs]at h2 h3;exact⟨g,w',by simp[execOp,h1],h2,h3⟩
def Dy(K:sx P key κ){o l}{val:α->D}{k dk}(ht:P.underlying t=some (.map key e))(hx:bp env x=some (.mp o))(I:st.aB[o]?=some (.map (iP K.ke val l)))
  (hy:bp env y=some (.d dk)) (hk:∀lim w v,cq lim w dk v->v=K.ke k) :
  uL P base env st ⟨d,.call ⟨.builtin .delete,#[x,y],#[t,t2]⟩,ty,pos,after,gd⟩ (.d (.dp [])) (st.set o (.map (iP K.ke val (eG l k)))):=by
 intro g w tmps f J;have L:=aq J hx;generalize hv:Act.eval ⟨tmps,[]⟩ x=v at L;have V:Act.eval ⟨tmps,[]⟩ y=K.ke k:=by
  have:=aq J hy;cases this with|d _ _ h=>grind
 cases L with
 | mp _ W =>
  obtain⟨X,a,H,C,hl,A,S,M⟩:=f.map o _ I;have N:=WG hl A;have hblk:g.ob o<w.heap.size:=(zbe.1 C).1;have hlen:a.size=l.length:=by simpa[iP] using hl
  have z:=K.find k l a.toList w N;have fin:∀(ms':uD MapEntry),ms'.size=(eG l k).length ->
    (∀(i:Nat) (p:κ×α) (m:MapEntry),(eG l k)[i]?=some p->ms'[i]?=some m->m.key=K.ke p.1/\aY g w st (.d (val p.2)) m.val) ->
    (∀(i:Nat) (m:MapEntry),ms'[i]?=some m->m.born<H)->(∀(i j:Nat) (m r:MapEntry),ms'[i]?=some m->ms'[j]?=some r->m.born=r.born->i=j) ->
    (execOp (Act.eval ⟨tmps,[]⟩) ⟨d,.call ⟨.builtin .delete,#[x,y],#[t,t2]⟩,ty,pos,after,gd⟩).run P w=.ok (.value (.tuple #[])) { w with heap:=w.heap.setIfInBounds (g.ob o) (.map ms' H) } ->
    ∃v g' w',(execOp (Act.eval ⟨tmps,[]⟩) ⟨d,.call ⟨.builtin .delete,#[x,y],#[t,t2]⟩,ty,pos,after,gd⟩).run P w=.ok (.value v) w'/\aY g' w' (st.set o (.map (iP K.ke val (eG l k)))) (.d (.dp [])) v/\Inv g' base w' (st.set o (.map (iP K.ke val (eG l k))))/\Step base g w st g' w' (st.set o (.map (iP K.ke val (eG l k)))):=by
   intro ms' O k2 k3 k4 k5;obtain⟨q1,q2⟩:=f.Qh (es':=iP K.ke val (eG l k)) I (ms':=ms') (clock':=H) (by simpa[iP] using O) (λi kk Y m F Q=>by
    simp only[iP,zau]at F
    grind) k3 k4
   exact⟨_,g,_,k5,.d _ _ (.dp _ _ rfl (λi c u h=>by simp at h)),q1,q2⟩
  cases s:dL l k with
  | none =>
   rw[s]at z;simp only[zfc]at z;have b:eG l k=l:=by unfold eG;rw[s]
   refine fin a (by rw[b,hlen]) (λi p m n q=>?_) S M ?_
   .rw[b]at n;exact A i (K.ke p.1) (.d (val p.2)) m (by simp[iP,n]) q
   .simp[execOp,resolve,invoke,builtin,hv,V,Builtin.delete_,run_underlying ht,getObj,setObj,Sem.run,C,K.check,z]
  | some j =>
   have Z:=xu s;have b:eG l k=l.eraseIdx j:=by unfold eG;rw[s]
   have h1:a[j]?=some (a[j]'(by omega)):=zbl (by omega);have R:a.toList[j]?=some (a[j]'(by omega)):=by rw[zcf];exact h1
   rw[s]at z;simp only[zac,R,Option.map_some]at z;have G:a.eraseIdxIfInBounds j=(a.toList.eraseIdx j).toArray:=by
    grind
   have B:∀(i:Nat) m,(a.eraseIdxIfInBounds j)[i]?=some m->a[if i<j then i else i+1]?=some m:=by
    grind
   refine fin (a.eraseIdxIfInBounds j) ?_ (λi p m n q=>?_) (λi m q=>S _ m (B i m q)) (λi T m r q E U=>?_) ?_
   .rw[b,G]
    grind
   .rw[b,List.getElem?_eraseIdx]at n;have E:=B i m q;split at n
    .rename_i h;rw[zab h]at E;exact A i (K.ke p.1) (.d (val p.2)) m (by simp[iP,n]) E
    .rename_i h;rw[zaa h]at E;exact A (i+1) (K.ke p.1) (.d (val p.2)) m (by simp[iP,n]) E
   .have:=M _ _ m r (B i m q) (B T r E) U;split at this<;>split at this<;>omega
   .simp[execOp,resolve,invoke,builtin,hv,V,Builtin.delete_,run_underlying ht,getObj,setObj,Sem.run,C,K.check,z]
end rules
section lit
variable {P:uG}{f:Ctx}{N:Nat}{S:Start}{Q:EV->St->Prop}{k:List Item}{κ:Type}[BEq κ][LawfulBEq κ]{key:uE}
theorem aE.split{todo env st} b(ht:b=true->aE P f N S Q todo env st)(h:b=false->aE P f N S Q todo env st):aE P f N S Q todo env st:=by
 grind
def MStep P(N:Nat)(l:List Oper)(m:Nat)(t:uE)(K:sx P key κ)(ins:List (Nat×κ×EV))(V:St)(i:Nat)(o:Oper)(env:Env)(x:EV):=
  eE N o.dst=true /\
  (((Nat.beq i m || ins.any λe=>Nat.beq e.1 i)=false/\∀st,(st=V∨∃es,st=V.add (.map es))->uR P l env st o x) ∨
   (i=m/\o.guard=none/\x=.mp V.aB.length/\∃t,o.op=.makeMap t none) ∨
   ∃kk v dk a b c,(i,kk,v)∈ins/\x=.d .any/\o.guard=none/\o.op=.insert t a b c/\bp env a=some (.mp V.aB.length)/\bp env b=some (.d dk)/\(∀lim w v,cq lim w dk v->v=K.ke kk)/\bp env c=some v /\
      ((cn l []).getD i 0).testBit m=true)
def vS P(N:Nat)(l:List Oper)(m:Nat)(t:uE)(K:sx P key κ)(ins:List (Nat×κ×EV))(V:St):Nat->List Oper->List EV->Env->Prop
 | _,[],[],_=>True
 | i,o::os,x::xs,env=>MStep P N l m t K ins V i o (jJ l o env) x/\vS P N l m t K ins V (i+1) os xs (env.put o.dst x)
 | _,_,_,_=>False
def vS.length{l m t}{K:sx P key κ}{ins V}:∀{i os xs env},vS P N l m t K ins V i os xs env->xs.length=os.length
 | _,[],[],_,_=>rfl
 | _,o::os,x::xs,env,h=>by simp[vS.length h.2]
 | _,[],x::xs,_,h=>h.elim
 | _,o::os,[],_,h=>h.elim
def vS.get{l m t}{K:sx P key κ}{ins V}:∀{i os xs env j o},vS P N l m t K ins V i os xs env->os[j]?=some o ->
  ∃x,xs[j]?=some x/\MStep P N l m t K ins V (i+j) o (jJ l o (eo env (os.take j) (xs.take j))) x
 | i,o'::os,x::xs,env,0,o,h,H=>by
  simp at H;subst H;exact⟨x,rfl,by simpa[eo] using h.1⟩
 | i,o'::os,x::xs,env,j+1,o,h,H=>by
  obtain⟨y,h1,h2⟩:=vS.get (j:=j) h.2 (by simpa using H);exact⟨y,by simp_all,by simpa[eo,zcw,zfi 1 j] using h2⟩
 | i,[],xs,env,j,o,h,H=>by simp at H
 | i,o'::os,[],_,_,_,h,_=>h.elim
def EM{β:Type}{L:Nat->Bool}{i x}:∀{ins:LQ (Nat×β)},(ins.map (·.1)).Nodup->(i,x)∈ins->L i=false ->
  (ins.filter λe=>e.1==i || L e.1).Perm ((i,x)::ins.filter λe=>L e.1)
 | [],_,h,_=>by cases h
 | e::ins,hn,h,d=>by
  simp only[zbb,zbz]at hn;have o:∀e'∈ins,e'.1≠e.1:=λe' A a=>hn.1 (a▸zen (f:=(·.1)) A)
  rcases zao.1 h with H|H
  .subst H;have b:(ins.filter λe=>e.1==i || L e.1)=ins.filter λe=>L e.1:=zdx λe' A=>by
    have:=o e' A
    grind
   rw[zby,zby];simp_all
  .have g:=EM hn.2 H d;have c:e.1≠i:=λj=>o (i,x) H j.symm
   rw[zby,zby];have h1:(e.1==i || L e.1)=L e.1:=by simp[c]
   rw[h1];cases L e.1 with
   | true=>simp only[zce];exact(g.cons e).trans (.swap ..)
   | false=>simp_all
def aE.drawnMF{id l env st t e}(p m)(K:sx P key κ) ins(hm:P.follows .mixedOrders=true)(O:dB l p=true)(hu:P.underlying t=some (.map key e))
  (C:m<p) (X:∀e∈ins,e.1<p) (Y:∀e∈ins,e.1≠m) (D:(ins.map (·.1)).Nodup) (Z:(ins.map (·.2.1)).Nodup) {xs} (R:vS P N l m t K ins st 0 (l.take p) xs env)
  (Fb:∀es,es.Perm (ins.map (·.2))->bO P f N S Q l (l.drop p) k (eo env (l.take p) xs) (st.add (.map (fZ K.ke es)))):aE P f N S Q (.code (.region id l.toArray true)::k) env st:=by
 have hp:p<=l.length:=by
  simp only[dB,zam]at O;simp_all
 have E:xs.length=p:=by rw[R.length];grind
 refine aE.WY p xs (λL s=>(L m=false/\s=st/\∀e∈ins,L e.1=false)∨(L m=true/\∃es,s=st.add (.map (fZ K.ke es))/\es.Perm ((ins.filter λe=>L e.1).map (·.2)))) hm O E (.inl ⟨rfl,rfl,λ_ _=>rfl⟩) ?_ ?_
 .intro L s i o hi ho n sg _ u;obtain⟨x,hx,hd,T⟩:=R.get (j:=i) (o:=o) (by rw[zah,zab hi];exact ho);rw[zbh]at T;refine⟨hd,?_⟩;rcases T with⟨F,q⟩|⟨W,w,h,t',q⟩|⟨kk,v,dk,a,b,c,U,h,w,q,ha,hb,hk,hc,KW⟩
  .simp only[zgb]at F;have W:i≠m:=λe=>by rw[e,zef]at F;grind
   have ng:∀e∈ins,e.1≠i:=λe y hh=>by
    have:=zew.1 F.2 e y;rw[hh,zef]at this;simp_all
   refine⟨x,s,hx,.inl ⟨rfl,q s ?_⟩,?_⟩
   .grind
   .rcases u with⟨h1,h2,h3⟩|⟨h1,es,h2,h3⟩
    .grind
    .refine .inr ⟨by simp[h1],es,h2,?_⟩;have:(ins.filter λe=>e.1==i || L e.1)=ins.filter λe=>L e.1:=zdx λe y=>by grind
     rw[this];exact h3
  .subst W;rcases u with⟨h1,h2,h3⟩|⟨h1,_⟩
   .subst h2;refine⟨x,s.add (.map []),hx,.inr (.inl ⟨w,?_⟩),.inr ⟨by simp,[],rfl,?_⟩⟩
    .obtain⟨d,op,ty,pos,after,gd⟩:=o;simp only at q w;subst q;subst h;exact kf
    .have:(ins.filter λe=>e.1==i || L e.1)=[]:=zfq.2 λe y=>by grind
     rw[this];exact .nil
   simp_all
  .have A:=sg m KW;rcases u with⟨h1,_⟩|⟨h1,es,h2,h3⟩
   .rw[A]at h1;cases h1
   .have G:kk ∉ es.map (·.1):=by
     intro B;have h4:=(h3.map (·.1)).mem_iff.1 B
     obtain⟨e1,I,cD⟩:=zck.1 h4;obtain⟨e2,J,rfl⟩:=zck.1 I;obtain⟨M,H⟩:=zcx.1 J;have g:∀{ins:LQ (Nat×κ×EV)},(ins.map (·.2.1)).Nodup->∀a∈ins,∀b∈ins,a.2.1=b.2.1->a=b:=by
      intro ins
      induction ins with
      | nil=>simp_all
      | cons c r ih =>
       grind
     have:=g Z e2 M (i,kk,v) U cD;rw[this]at H;rw[n]at H;cases H
    have Nl:cQ es kk v=es++[(kk,v)]:=by unfold cQ;rw[Qg G]
    refine⟨x,st.add (.map (fZ K.ke (es++[(kk,v)]))),hx,.inr (.inr ⟨w,h,?_⟩),.inr ⟨by simp[A],_,rfl,?_⟩⟩
    .obtain⟨d,op,ty,pos,after,gd⟩:=o;simp only at q w;subst q;subst h2;have:=UD (base:=S.base) (l:=es) (d:=d) (ty:=ty) (pos:=pos) (after:=after) (gd:=gd) (z:=c) (st:=st.add (.map (fZ K.ke es))) K hu ha (by simp[St.add]) hb hk hc;rw[Nl]at this;have rp:(st.add (.map (fZ K.ke es))).set st.aB.length (.map (fZ K.ke (es++[(kk,v)])))=st.add (.map (fZ K.ke (es++[(kk,v)]))):=by
      simp[St.add,St.set]
     rw[rp]at this;exact this
    .have h5:=EM D U n;have h6:=h5.map (·.2)
     refine List.Perm.trans ?_ h6.symm;simp only[zbb];exact(List.perm_append_singleton _ _).trans (h3.cons _)
 .intro L s V u;rcases u with⟨h1,_⟩|⟨h1,es,h2,h3⟩
  .rw[V m C]at h1;cases h1
  .subst h2;have:(ins.filter λe=>L e.1)=ins:=zdc.2 λe y=>V _ (X e y)
   rw[this]at h3;simp_all
def zf P(f:Ctx)(N:Nat)(S:Start)(Q:EV->St->Prop)(l:List Oper)(p m:Nat)(t:uE)(K:sx P key κ)(ins:List (Nat×κ×EV))(i:Nat)(os:List Oper)(k:List Item)(env:Env)(st:St):=
 ∃xs,vS P N l m t K ins st i os xs env/\∀es,es.Perm (ins.map (·.2))->bO P f N S Q l (l.drop p) k (eo env os xs) (st.add (.map (fZ K.ke es)))
variable {l:List Oper}{p m:Nat}{t:uE}{K:sx P key κ}{ins:List (Nat×κ×EV)}{i:Nat}{os:List Oper}{env:Env}{st:St}{d:Option Tmp}{op:Op}{ty:uE}{pos:String}{after:uD Edge}{x:EV}
def zf.nil(h:∀es,es.Perm (ins.map (·.2))->bO P f N S Q l (l.drop p) k env (st.add (.map (fZ K.ke es)))):zf P f N S Q l p m t K ins i [] k env st:=⟨[],trivial,h⟩
theorem zf.g(h:∀s,(s=st∨∃es,s=st.add (.map es))->zd P (jJ l ⟨d,op,ty,pos,after,none⟩ env) s ⟨d,op,ty,pos,after,none⟩ x)(H:(Nat.beq i m || ins.any λe=>Nat.beq e.1 i)=false)(a:eE N d=true)
  (hk:zf P f N S Q l p m t K ins (i+1) os k (env.put d x) st):zf P f N S Q l p m t K ins i (⟨d,op,ty,pos,after,none⟩::os) k env st:=by
 obtain⟨xs,h1,h2⟩:=hk;exact⟨x::xs,⟨⟨a,.inl ⟨H,λs hs=>.inl ⟨rfl,h s hs⟩⟩⟩,h1⟩,h2⟩
theorem zf.q(h:∀s,(s=st∨∃es,s=st.add (.map es))->aG P (jJ l ⟨d,op,ty,pos,after,none⟩ env) s ⟨d,op,ty,pos,after,none⟩ x)(H:(Nat.beq i m || ins.any λe=>Nat.beq e.1 i)=false)(a:eE N d=true)
  (hk:zf P f N S Q l p m t K ins (i+1) os k (env.put d x) st):zf P f N S Q l p m t K ins i (⟨d,op,ty,pos,after,none⟩::os) k env st:=.g (λs hs=>(h s hs).g) H a hk
def zf.make{h}(hi:i=m)(H:eE N d=true)(hk:zf P f N S Q l p m t K ins (i+1) os k (env.put d (.mp st.aB.length)) st):
  zf P f N S Q l p m t K ins i (⟨d,.makeMap h none,ty,pos,after,none⟩::os) k env st:=by
 obtain⟨xs,h1,h2⟩:=hk;exact⟨.mp st.aB.length::xs,⟨⟨H,.inr (.inl ⟨hi,rfl,rfl,h,rfl⟩)⟩,h1⟩,h2⟩
def zf.Nn{a b c kk v dk}(j:Nat)(D:ins[j]?=some (i,kk,v))(ha:bp (jJ l ⟨none,.insert t a b c,ty,pos,after,none⟩ env) a=some (.mp st.aB.length))
  (h:bp (jJ l ⟨none,.insert t a b c,ty,pos,after,none⟩ env) b=some (.d dk)) (V:∀lim w v,cq lim w dk v->v=K.ke kk) (H:bp (jJ l ⟨none,.insert t a b c,ty,pos,after,none⟩ env) c=some v)
  (e:((cn l []).getD i 0).testBit m=true) (hk:zf P f N S Q l p m t K ins (i+1) os k env st):zf P f N S Q l p m t K ins i (⟨none,.insert t a b c,ty,pos,after,none⟩::os) k env st:=by
 obtain⟨xs,h1,h2⟩:=hk;exact⟨.d .any::xs,⟨⟨rfl,.inr (.inr ⟨kk,v,dk,a,b,c,zav D,rfl,rfl,rfl,ha,h,V,H,e⟩)⟩,h1⟩,h2⟩
def aE.drawnM{id e}(p m)(K:sx P key κ) ins(hm:P.follows .mixedOrders=true)(c:dB l p=true)(hu:P.underlying t=some (.map key e))
  (a:m<p) (d:(ins.all λe=>decide (e.1<p) && !Nat.beq e.1 m)=true) (b:(ins.map (·.1)).Nodup) (E:(ins.map (·.2.1)).Nodup) (h:zf P f N S Q l p m t K ins 0 (l.take p) k env st) :
  aE P f N S Q (.code (.region id l.toArray true)::k) env st:=by
 obtain⟨xs,h1,h2⟩:=h;have hip':∀e∈ins,e.1<p/\e.1≠m:=λe H=>by
  have:=zbf.1 d e H;simp only[zam,zcc,zdy]at this;exact⟨this.1,λg=>by rw[g,zef]at this;grind⟩
 exact .drawnMF p m K ins hm c hu a (λe H=>(hip' e H).1) (λe H=>(hip' e H).2) b E h1 h2
end lit
section keys
variable {P:uG}
def BK{k v}(h:mq k v=true)(n):Instr.sameBits n v v=true:=by
 cases v<;>cases k<;>simp[mq]at h<;>simp[Instr.sameBits]<;>(rw[beq_toListBytes];simp)
def zP:∀{ks vs},fitAll ks vs=true->∀n,(vs.zip vs).all (λp=>Instr.sameBits n p.1 p.2)=true
 | [],[],_,n=>rfl
 | k::ks,v::vs,h,n=>by
  simp only[fitAll,zam]at h;simp only[List.zip_cons_cons,List.all_cons,BK h.1,zP h.2,Bool.and_self]
 | [],_::_,h,_=>by cases h
 | _::_,[],h,_=>by cases h
def KX{t k}(h:IU (P.underlying t)=some k){v}(hv:mq k v=true) b n(w):(Instr.checkKey b (n+1) t v).run P w=.ok () w:=by
 cases H:P.underlying t with
 | none=>rw[H]at h;cases h
 | some a =>
  rw[H]at h;cases a<;>simp only[IU,Option.some.injEq,reduceCtorEq]at h<;>subst h<;>cases v<;>simp[mq]at hv<;>simp[Instr.checkKey,run_underlying H]
def EO b n w(X):∀H k ks vs,qs P k H=some ks->fitAll ks vs=true->(∀j v,vs[j]?=some v->X[k+j]?=some v) ->
  (forIn H PUnit.unit λf _=>do
   if f.name ≠ "_" then do
    Instr.checkKey b (n+1) f.type (←part f.type X f.offset)
    pure (.yield PUnit.unit)
   else pure (.yield PUnit.unit):Sem PUnit).run P w=.ok PUnit.unit w
 | [],k,ks,vs,h,hv,a=>by simp
 | f::H,k,ks,vs,h,hv,a=>by
  unfold qs at h;split at h
  .rename_i kk c h1 h2 h3 h4;simp only[Option.some.injEq]at h;subst h
   match vs with
   | []=>cases hv
   | v::vs =>
    simp only[fitAll,zam]at hv;have d:=zai h1;have R:f.name ≠ "_" := zbk h2;have p:=uS h3 (cs:=X) (off:=f.offset) (a 0 v rfl |> λh=>by rw[d];omega) w;have e:=KX h3 hv.1 b n w;have i:=EO b n w X H (k+1) c vs h4 hv.2 (λj v hv=>by have:=a (j+1) v (by simp_all);rwa [show k+1+j=k+(j+1) by omega]);rw[List.forIn_cons];simp_all
  .cases h
end keys
structure zQ(l:List Oper)(p:Nat)(σ:List Nat):Prop where
 nodup:σ.Nodup
 mem:∀i,i∈σ↔i<p
 mask:∀pre i post,σ=pre++i::post->∀j,((cn l []).getD i 0).testBit j=true->j∈pre
def W3{l p}(C:p<=l.length)
  (P:∀i,p<=i->i<l.length->∀j,j<i->((cn l []).getD i 0).testBit j=true)
  (x:∀i o,l[i]?=some o->∀e∈o.after,Region.binds .any e=true->e.on<i) :
  ∀(Bz f t) (listed),listed.size=l.length->tW l listed->(∀i,p<=i->i<l.length->listed.getD i true=false) ->
   ((List.range p).filter λi=>!listed.getD i true).length=Bz->Bz+(l.length-p)<=f ->
   ∃σ:LQ Nat,Region.linearise.go .any l.toArray f t listed []=σ++List.range' p (l.length-p)/\σ.Nodup/\(∀i,i∈σ↔i<p/\listed.getD i true=false) /\
    ∀pre i post,σ=pre++i::post->∀j,((cn l []).getD i 0).testBit j=true->j∈pre∨listed.getD j false=true:=by
 intro Bz
 induction Bz with
 | zero =>
  intro f t listed hs g m G D;have q:∀i,i<p->listed.getD i true=true:=by
   simp_all
  have F:=yJ P x f t p listed (zag _) C (by omega) hs (λi hi=>by
   grind)
  simp_all
 | succ Bz I =>
  intro f t listed hs g m G D;obtain⟨f,rfl⟩:∃n,f=n+1:=⟨f-1,by omega⟩
  -- an operation of the beginning that has not come up
  have r:∃i,i<p/\listed.getD i true=false:=by
   have:(List.range p).filter (λi=>!listed.getD i true)≠[]:=λh=>by rw[h]at G;grind
   simp_all
  have s:∀i,i<l.length->listed.getD i false=listed.getD i true:=λi hi=>by
   have J:i<listed.size:=by omega
   simp_all
  have K:((List.range l.toArray.size).filter λi=>!listed.getD i true && ((l.toArray[i]?).map (·.after.all λe=>!Region.binds .any e || listed.getD e.on false)).getD false)=Region.ready .any l.toArray listed:=rfl
  -- the least such is ready
  have M:Region.ready .any l.toArray listed≠[]:=by
   have N:∀n i,i<=n->i<p->listed.getD i true=false->∃i,i<p/\listed.getD i true=false/\∀j,j<i->listed.getD j true=true:=by
    intro n
    induction n with
    | zero=>grind
    | succ n O =>
     grind
   obtain⟨y,h0,h1⟩:=r;obtain⟨i,Q,R,mH⟩:=N y y (zag _) h0 h1;have u:i<l.length:=by omega
   have:i∈Region.ready .any l.toArray listed:=by
    rw[mem_ready];refine⟨R,l[i],by simp[u],λe H b=>?_⟩;have J:=x i l[i] (zaf u) e H b;rw[s _ (by omega)]
    grind
   grind
  simp only[Region.linearise.go,K];have c:0<(Region.ready .any l.toArray listed).length:=zcn.2 M;have S:=zdq t c;generalize hi:(Region.ready .any l.toArray listed)[t % (Region.ready .any l.toArray listed).length]=i;have z:(Region.ready .any l.toArray listed)[t % (Region.ready .any l.toArray listed).length]?=some i:=by rw[zaf S,hi]
  rw[z];simp only[];rw[linearise_go_acc];have W:i∈Region.ready .any l.toArray listed:=zav z;obtain⟨R,o,ho,q⟩:=mem_ready.1 W;have v:l[i]?=some o:=by simp_all
  have u:=(zad.1 v).1;have T:=pr g v (λe H b=>q e H b);have Q:i<p:=by
   grind
  -- what remains behind it
  have U:((List.range p).filter λj=>!(listed.setIfInBounds i true).getD j true).length=Bz:=by
   have V:∀j,(listed.setIfInBounds i true).getD j true=(listed.getD j true || decide (j=i)):=by
    intro j;by_cases k:j=i
    .simp_all
    .rw[getD_set_ne true (zcq k)];simp[k]
   have X:((List.range p).filter λj=>!(listed.setIfInBounds i true).getD j true)=((List.range p).filter λj=>!listed.getD j true).filter λj=>!decide (j=i):=by
    rw[zfj]
    grind
   rw[X];have w:((List.range p).filter λj=>!listed.getD j true).Nodup:=List.nodup_range.filter _;have Y:i∈(List.range p).filter λj=>!listed.getD j true:=by rw[zcx,List.mem_range];simp_all
   have Z:∀(L:LQ Nat),L.Nodup->i∈L->(L.filter λj=>!decide (j=i)).length+1=L.length:=by
    intro L
    induction L with
    | nil=>simp_all
    | cons a L ihL =>
     intro hn hm;rw[zbz]at hn;by_cases ha:a=i
     .subst ha;have:(L.filter λj=>!decide (j=a))=L:=by
       rw[zdc]
       grind
      rw[zby]
      grind
     grind
   have:=Z _ w Y;omega
  have WA:tW l (listed.setIfInBounds i true):=by
   intro j oj E B e A b;by_cases k:j=i
   .subst k;rw[v]at E;cases E;exact getD_set_true (q e A b)
   .rw[getD_set_ne false (zcq k)]at B;exact getD_set_true (g j oj E B e A b)
  have WC:∀j,p<=j->j<l.length->(listed.setIfInBounds i true).getD j true=false:=λj d Px=>by rw[getD_set_ne true (by omega)];simp_all
  obtain⟨σ,h1,h2,h3,h4⟩:=I f (t / (Region.ready .any l.toArray listed).length) _ (by simp_all) WA WC U (by omega);have V:∀j,(listed.setIfInBounds i true).getD j true=(listed.getD j true || decide (j=i)):=by
   intro j;by_cases k:j=i
   .simp_all
   .rw[getD_set_ne true (zcq k)];simp[k]
  refine⟨i::σ,?_,?_,?_,?_⟩
  .rw[h1];rfl
  .rw[zbz];simp_all
  .grind
  .intro pre i' post H j d;cases pre with
   | nil =>
    simp only[zcs,List.cons.injEq]at H;rw[←H.1]at d;exact .inr (T j d)
   | cons a pre =>
    simp only[List.cons_append,List.cons.injEq]at H;rcases h4 pre i' post H.2 j d with h|h
    .exact .inl (zak _ h)
    .by_cases k:j=i
     .left;rw[k,H.1];exact zal
     .rw[getD_set_ne false (zcq k)]at h;exact .inr h
section run
variable {P:uG}{f:Ctx}{N:Nat}{S:Start}{Q:EV->St->Prop}{k:List Item}
def aE.W4{id l env st} p(hm:P.follows .mixedOrders=true)(q:dB l p=true)
  (h:∀σ,zQ l p σ->aE P f N S Q (.inRegion l.toArray (σ++List.range' p (l.length-p))::k) env st):aE P f N S Q (.code (.region id l.toArray true)::k) env st:=by
 simp only[dB,zam]at q;obtain⟨⟨⟨⟨V,s⟩,b⟩,c⟩,u⟩:=q;have v:p<=l.length:=by simp_all
 intro g w tmps H x d hn;refine bT.vH λt=>?_
 have y:Region.schedule (P.follows .mixedOrders) l.toArray t=Region.linearise .any l.toArray t:=by simp[Region.schedule,hm]
 rw[y];have z:Below w.heap.size w { w with drawn:=w.drawn+1 }:=(Below.refl _ w).drew;obtain⟨A,r⟩:=H.grow (g':=g) z (λ_ _=>rfl) rfl rfl;unfold Region.linearise;obtain⟨σ,h1,h2,h3,h4⟩:=W3 (l:=l) (p:=p) v (λi hi a j m=>by
   have h1:=bq b a;simp only[zcj,zcc]at h1;rcases h1 with h1|h1
   .omega
   .exact bq h1 m) (λi o n e B C=>by
   have a:=(zad.1 n).1;have h1:=bq c a;rw[n]at h1
   grind) p l.toArray.size t (Array.replicate l.toArray.size false) (by simp) (λi o n U=>by
   simp[zba,Array.getElem?_replicate]at U;split at U<;>simp_all) (λi hi a=>by simp_all) (by
   have:((List.range p).filter λi=>!(Array.replicate l.toArray.size false).getD i true)=List.range p:=by
    rw[zdc];intro i hi;have hi':=List.mem_range.1 hi;have:i<l.length:=by omega
    simp_all
   rw[this];simp) (by grind)
 rw[h1];refine h σ ⟨h2,λi=>?_,λpre i post d j m=>?_⟩ g _ tmps A (x.step r) (d.mono r.cU) hn
 .rw[h3];constructor
  .omega
  .intro hi;have:i<l.length:=by omega
   simp_all
 .rcases h4 pre i post d j m with h|h
  .exact h
  .simp[zba,Array.getElem?_replicate]at h;split at h<;>simp_all
def OpC(P:uG)(base:Nat)(env:Env)(st:St)(o:Oper)(x:EV)(st':St):=
 ∀g w tmps,Inv g base w st->cT g w st env tmps->∃f' args,(execOp (Act.eval ⟨tmps,[]⟩) o).run P w=.ok (.enter f' args) w /\
  Calls P f' args w λe w'=>∃v g',e=.returned v/\aY g' w' st' x v/\Inv g' base w' st'/\Step base g w st g' w' st'
def OpF(P:uG)(base:Nat)(l:List Oper)(env:Env)(st:St)(o:Oper)(x:EV)(st':St):= OpE P base l env st o x st'∨o.guard=none/\OpC P base env st o x st'
def aE.runσ{l p σ env st}(hs:zQ l p σ)(hp:p<=l.length) xs(F:LQ Nat->St->Prop)
  (hC1:∀i j t,i<p->j<p->i≠j->bW l i=some t->bW l j≠some t)
  (V:∀i o,i<p->l[i]?=some o->∀t∈xr l o,∀j,j<p->j≠i->bW l j=some t->j<i/\((cn l []).getD i 0).testBit j=true∨i<j/\((cn l []).getD j 0).testBit i=true)
  (hxp:xs.length=p) (hF0:F [] st)
  (j6:∀pre i post st o,σ=pre++i::post->l[i]?=some o->F pre st->eE N o.dst=true/\∃x st',xs[i]?=some x/\OpF P S.base l (jJ l o (eo env ((l.take p).take i) (xs.take i))) st o x st'/\F (pre++[i]) st')
  (Fb:∀st,F σ st->bO P f N S Q l (l.drop p) k (eo env (l.take p) xs) st):aE P f N S Q (.inRegion l.toArray (σ++List.range' p (l.length-p))::k) env st:=by
 have uP:xs.length=(l.take p).length:=by grind
 suffices key:∀(post pre:LQ Nat) (st:St) (g:eI) (w:uC) (tmps:uD uB),σ=pre++post->F pre st->Inv g S.base w st->rk S g w st->tmps.size=N ->
   (∀(s:Tmp),(∀(j:Nat) x,j∈pre->bW l j=some s->xs[j]?=some x->∃v,tmps[s]?=some v/\aY g w st x v) /\
    ((∀j,j∈pre->bW l j≠some s)->∀y,lookup s env=some y->∃v,tmps[s]?=some v/\aY g w st y v)) ->
   bT P f (mh S Q) (.inRegion l.toArray (post++List.range' p (l.length-p))::k) tmps w by
  intro g w tmps H W E O;exact key σ [] st g w tmps rfl hF0 H W O λs=>⟨λj x m=>by(cases m),λ_ y hy=>E s y hy⟩
 intro post
 induction post with
 | nil =>
  intro pre st g w tmps A hF H W O K;rw[zbr]at A;subst A;have Bf:(l.drop p).length=l.length-p:=by simp
  rw[zcs,←Bf];refine Fb st hF p (λj=>by rw[zbd]) g w tmps H W (λs y hy=>?_) O;rcases iF uP hy with⟨j,o,h1,h2,h3⟩|⟨h1,h2⟩
  .have m:j<p:=by have:=(zad.1 h2).1;omega
   have ho:l[j]?=some o:=by rw[zah]at h1;rw[zab m]at h1;exact h1
   exact(K s).1 j y ((hs.mem j).2 m) (by simp[bW,ho,h3]) h2
  .refine(K s).2 (λj m hd=>?_) y h2;have R:=(hs.mem j).1 m;cases ho:l[j]? with
   | none=>grind
   | some o=>exact h1 j o (by rw[zah,zab R];exact ho) (by simpa[bW,ho] using hd)
 | cons i post ih =>
  intro pre st g w tmps A hF H W O K;have hi:i<p:=(hs.mem i).1 (by rw[A];simp);have jw:i<l.length:=by omega
  obtain⟨o,T⟩:∃o,l[i]?=some o:=⟨_,zaf jw⟩;have sg:=hs.mask pre i post A;have L:i ∉ pre:=by
   have:=hs.nodup;rw[A,zdi]at this
   grind
  have Qi:∀j,j∈pre->j<p:=λj m=>(hs.mem j).1 (by rw[A];simp[m]);obtain⟨hd,x,st',hx,q,hF'⟩:=j6 pre i post st o A T hF
  -- what the operation looks at
  have E:cT g w st (jJ l o (eo env ((l.take p).take i) (xs.take i))) tmps:=by
   intro s y hy;obtain⟨M3,F8⟩:=se hy;rcases iF (by simp[uP]) F8 with⟨j,o',h1,h2,h3⟩|⟨h1,h2⟩
   .have M:j<i:=by have:=(zad.1 h2).1;grind
    have EI:l[j]?=some o':=by
     rw[zah,zab M,zah,zab (by omega)]at h1;exact h1
    have C:bW l j=some s:=by simp[bW,EI,h3]
    rcases V i o hi T s M3 j (by omega) (by omega) C with⟨_,X⟩|⟨bS,_⟩
    .exact(K s).1 j y (sg j X) C (by rw[zah,zab M]at h2;exact h2)
    .omega
   .refine(K s).2 (λj m C=>?_) y h2;have M:j≠i:=λe=>L (e▸m)
    rcases V i o hi T s M3 j (Qi j m) M C with⟨bS,_⟩|⟨bS,X⟩
    .cases EI:l[j]? with
     | none=>grind
     | some o'=>exact h1 j o' (by rw[zah,zab bS,zah,zab (Qi j m)];exact EI) (by simpa[bW,EI] using C)
    .-- j came ahead of i,though it must come behind it
     obtain⟨a,b,pa⟩:=zeu m;have:=hs.mask a j (b++i::post) (by rw[A,pa];simp) i X;simp_all
  have next:∀(g':eI) (w':uC) (v:uB),aY g' w' st' x v->Inv g' S.base w' st'->Step S.base g w st g' w' st' ->
    bT P f (mh S Q) (.inRegion l.toArray (post++List.range' p (l.length-p))::k) (Act.put ⟨tmps,[]⟩ o.dst v).tmps w':=by
   intro g' w' v U G B;refine ih (pre++[i]) st' g' w' _ (by rw[A];simp) hF' G (W.step B) (by rw[fX];exact O) λs=>⟨λj y m C hy=>?_,λEJ y hy=>?_⟩
   .by_cases M:j=i
    .subst M;have M4:o.dst=some s:=by simpa[bW,T] using C
     rw[hx]at hy;cases hy;rw[M4];have dE:s<tmps.size:=by
      rw[M4]at hd;have Uo:s+1<=N:=zae hd;rw[O];exact Uo
     exact⟨v,by simp[Act.put,dE],U⟩
    .have R:j∈pre:=by
      simp_all
     obtain⟨u,h1,h2⟩:=(K s).1 j y R C hy;have mJ:o.dst≠some s:=λe=>hC1 j i s (Qi j R) hi M C (by simp[bW,T,e])
     refine⟨u,?_,h2.mono B.cU⟩;cases WD:o.dst with
     | none=>exact h1
     | some d =>
      have:d≠s:=λe=>mJ (by rw[WD,e])
      simp[Act.put,zcv,this,h1]
   .have mJ:o.dst≠some s:=λe=>EJ i (by simp) (by simp[bW,T,e])
    obtain⟨u,h1,h2⟩:=(K s).2 (λj m=>EJ j (by simp[m])) y hy;refine⟨u,?_,h2.mono B.cU⟩;cases WD:o.dst with
    | none=>exact h1
    | some d =>
     have:d≠s:=λe=>mJ (by rw[WD,e])
     simp[Act.put,zcv,this,h1]
  have I:l.toArray[i]?=some o:=by simp_all
  show bT P f (mh S Q) (.inRegion l.toArray (i::_)::k) tmps w;have Y:st'=st->∀(n:Nat->Nat) (w':uC) (v:uB),Good g w st x n w' v ->
    bT P f (mh S Q) (.inRegion l.toArray (post++List.range' p (l.length-p))::k) (Act.put ⟨tmps,[]⟩ o.dst v).tmps w':=by
   rintro rfl n w' v ⟨U,X,hl⟩;obtain⟨G,B⟩:=H.grow (g':={ g with lim:=n }) X hl rfl rfl
   grind
  rcases q with(⟨Z,q⟩|⟨D,q⟩|⟨D,rfl,q⟩)|⟨D,q⟩
  .rcases q with⟨D,q⟩|⟨j,want,tt,c,b,y,env',D,m,hlk,hgc,rfl,hE,q⟩
   .have z:Region.wanted o (yielded l.toArray tmps)=true:=by simp[Region.wanted,D]
    rcases q g S.base w tmps H E with⟨v,n,w',r,xt⟩|⟨f',args,r,hc⟩
    .exact bT.value I z r (Y Z n w' v xt)
    .exact bT.call I z r (hc.mono λe w' ⟨v,n,h1,h2⟩=>⟨v,h1,Y Z n w' v h2⟩)
   .obtain⟨u,hu,hur⟩:=E tt c hlk;have z:Region.wanted o (yielded l.toArray tmps)=b:=by
     rw[←rO hgc hur];have R:((l.toArray)[j]?).bind (·.dst)=some tt:=by simp_all
     simp only[Region.wanted,D,yielded,R,zac,hu];cases u<;>rfl
    cases b with
    | false=>exact bT.rW I z (Y Z g.lim w undef ⟨.gd _ _ _ (λ_=>rfl) (λh=>by cases h),.refl _ _,λ_ _=>rfl⟩)
    | true =>
     have J:∀n w' v,Good g w st y n w' v->Good g w st (.gd true y) n w' v:=λn w' v ⟨a,b,c⟩=>⟨.gd _ _ _ (λh=>by cases h) (λ_=>a),b,c⟩
     rcases q rfl g S.base w tmps H (E.gd hE rfl)with⟨v,n,w',r,xt⟩|⟨f',args,r,hc⟩
     .exact bT.value I z r (Y Z n w' v (J _ _ _ xt))
     .exact bT.call I z r (hc.mono λe w' ⟨v,n,h1,h2⟩=>⟨v,h1,Y Z n w' v (J _ _ _ h2)⟩)
  .have z:Region.wanted o (yielded l.toArray tmps)=true:=by simp[Region.wanted,D]
   obtain⟨v,g',w',r,U,G,B⟩:=q g w tmps H E;exact bT.value I z r (next g' w' v U G B)
  .have z:Region.wanted o (yielded l.toArray tmps)=true:=by simp[Region.wanted,D]
   obtain⟨g',w',r,G,B⟩:=q g w tmps H E;exact bT.skip I z r (next g' w' undef (.d _ _ (.any _)) G B)
  .have z:Region.wanted o (yielded l.toArray tmps)=true:=by simp[Region.wanted,D]
   obtain⟨f',args,r,hc⟩:=q g w tmps H E;exact bT.call I z r (hc.mono λe w' ⟨v,g',h1,U,G,B⟩=>⟨v,h1,next g' w' v U G B⟩)
def UE:List St->(St->Prop)->Prop
 | [],_=>True
 | s::r,p=>p s/\UE r p
def UE.get{p}:∀{H} {i:Nat} {s},UE H p->H[i]?=some s->p s
 | s::r,0,a,h,hs=>by simp at hs;subst hs;exact h.1
 | s::r,i+1,a,h,hs=>UE.get h.2 (by simpa using hs)
 | [],i,a,h,hs=>by simp at hs
def mayB(l:List Oper)(E:List Nat)(i m:Nat):= E.zipIdx.all λe=>(!((cn l []).getD i 0).testBit e.1 || decide (e.2<m)) && (!((cn l []).getD e.1 0).testBit i || decide (m<=e.2))
def GA(l:List Oper)(E:List Nat)(i lo hi:Nat):= (List.range (E.length+1)).all λm=>!mayB l E i m || decide (lo<=m) && decide (m<=hi)
def EStep(P:uG)(N base:Nat)(l:List Oper)(E:List Nat)(fw:List St)(i:Nat)(o:Oper)(env:Env)(x:EV):=
  eE N o.dst=true /\
  ((∃lo hi,(!E.any λe=>Nat.beq e i)=true/\GA l E i lo hi=true/\UE ((fw.take (hi+1)).drop lo) λs=>uR P l env s o x) ∨
   ∃m s h,E[m]?=some i/\fw[m]?=some s/\fw[m+1]?=some h/\o.guard=none/\(uL P base env s o x h∨x=.d .any/\ID P base env s o h∨OpC P base env s o x h))
def vT(P:uG)(N base:Nat)(l:List Oper)(E:List Nat)(fw:List St):Nat->List Oper->List EV->Env->Prop
 | _,[],[],_=>True
 | i,o::os,x::xs,env=>EStep P N base l E fw i o (jJ l o env) x/\vT P N base l E fw (i+1) os xs (env.put o.dst x)
 | _,_,_,_=>False
def vT.length{base l E fw}:∀{i os xs env},vT P N base l E fw i os xs env->xs.length=os.length
 | _,[],[],_,_=>rfl
 | _,o::os,x::xs,env,h=>by simp[vT.length h.2]
 | _,[],x::xs,_,h=>h.elim
 | _,o::os,[],_,h=>h.elim
def vT.get{base l E fw}:∀{i os xs env j o},vT P N base l E fw i os xs env->os[j]?=some o ->
  ∃x,xs[j]?=some x/\EStep P N base l E fw (i+j) o (jJ l o (eo env (os.take j) (xs.take j))) x
 | i,o'::os,x::xs,env,0,o,h,H=>by
  simp at H;subst H;exact⟨x,rfl,by simpa[eo] using h.1⟩
 | i,o'::os,x::xs,env,j+1,o,h,H=>by
  obtain⟨y,h1,h2⟩:=vT.get (j:=j) h.2 (by simpa using H);exact⟨y,by simp_all,by simpa[eo,zcw,zfi 1 j] using h2⟩
 | i,[],xs,env,j,o,h,H=>by simp at H
 | i,o'::os,[],_,_,_,h,_=>h.elim
def aE.effσ{l p σ env st O}(R:dB l p=true)(hs:zQ l p σ)(E:LQ Nat) fw(y:σ.filter (λi=>E.any λe=>Nat.beq e i)=E){xs}
  (h0:fw[0]?=some st) (hF:fw[E.length]?=some O) (T:vT P N S.base l E fw 0 (l.take p) xs env) (Fb:bO P f N S Q l (l.drop p) k (eo env (l.take p) xs) O) :
  aE P f N S Q (.inRegion l.toArray (σ++List.range' p (l.length-p))::k) env st:=by
 simp only[dB,zam]at R;obtain⟨⟨⟨⟨Z,z⟩,hB3⟩,hB4⟩,hB5⟩:=R;have hp:p<=l.length:=by simp_all
 have A:xs.length=p:=by rw[T.length];grind
 refine aE.runσ hs hp xs (λpre s=>fw[(pre.filter λi=>E.any λe=>Nat.beq e i).length]?=some s) ?_ ?_ A h0 ?_ ?_
 .intro i j t hi B RX hdi si;have:=bq (bq z hi) B;simp_all
 .intro i o hi C t ht j B kP si;have h1:=bq Z hi;rw[C]at h1;simp only[zbf]at h1;have h2:=bq (h1 t ht) B
  grind
 .intro pre i post s o n C d;have hi:i<p:=(hs.mem i).1 (by rw[n];simp);obtain⟨x,hx,w⟩:=T.get (j:=i) (o:=o) (by rw[zah,zab hi];exact C);rw[zbh]at w;obtain⟨hd,w⟩:=w;refine⟨hd,x,?_⟩
  -- how far the turning operations have U
  have D:E=(pre.filter λi=>E.any λe=>Nat.beq e i)++((i::post).filter λi=>E.any λe=>Nat.beq e i):=by
   have:=y;rw[n,zfk]at this;simp_all
  generalize V:(pre.filter λi=>E.any λe=>Nat.beq e i).length=m at d;have hmE:m<=E.length:=by rw[D,zar,V];omega
  rcases w with⟨lo,hi',dz,hb,jb⟩|⟨m',s0,s1,q,W,hs1,F,qp⟩
  .have X:(E.any λe=>Nat.beq e i)=false:=by grind
   have r:mayB l E i m=true:=by
    unfold mayB;rw[zbf];rintro⟨e,j⟩ G;have g:E[j]?=some e:=by
     have:=zez.1 G;omega
    have H:(E.any λe'=>Nat.beq e' e)=true:=List.any_eq_true.2 ⟨e,zav g,zef e⟩;simp only[zam,zcj,zdy,zcc];have c:E.Nodup:=by rw[←y];exact hs.nodup.filter _
    constructor
    .cases K:((cn l []).getD i 0).testBit e with
     | false=>grind
     | true =>
      right;have I:=hs.mask pre i post n e K;have Y:e∈pre.filter λi=>E.any λe=>Nat.beq e i:=zcx.2 ⟨I,H⟩
      grind
    .cases K:((cn l []).getD e 0).testBit i with
     | false=>grind
     | true =>
      right
      -- e comes behind i
      rcases Nat.lt_or_ge j m with J|J
      .have h1:(pre.filter λi=>E.any λe=>Nat.beq e i)[j]?=some e:=by
        rw[D,zaj (by omega)]at g;exact g
       have I:e∈pre:=(zcx.1 (zav h1)).1;obtain⟨a,b,pa⟩:=zeu I;have:=hs.mask a e (b++i::post) (by rw[n,pa];simp) i K;have L:i ∉ pre:=by
        have:=hs.nodup;rw[n,zdi]at this
        grind
       grind
      omega
   have u:=zbf.1 hb m (List.mem_range.2 (by omega));rw[r]at u;simp only[zeq,zfr,zam,zcc]at u;refine⟨s,hx,.inl (.inl ⟨rfl,jb.get (i:=m-lo) ?_⟩),?_⟩
   .rw[zbd,zah,zab (by omega),show lo+(m-lo)=m by omega];exact d
   grind
  .have H:(E.any λe'=>Nat.beq e' i)=true:=List.any_eq_true.2 ⟨i,zav q,zef i⟩;have c:E.Nodup:=by rw[←y];exact hs.nodup.filter _
   have v:E[m]?=some i:=by
    rw[D,zan (by omega),V,Nat.sub_self,zby,H];rfl
   have M:m=m':=by
    have h1:=(zad.1 v);have h2:=(zad.1 q);exact(List.getElem_inj c).1 (h1.2.trans h2.2.symm)
   subst M;rw[d]at W;cases W;refine⟨s1,hx,?_,?_⟩
   .rcases qp with h|⟨h1,h2⟩|h
    .exact .inl (.inr (.inl ⟨F,h⟩))
    .exact .inl (.inr (.inr ⟨F,h1,h2⟩))
    .exact .inr ⟨F,h⟩
   grind
 simp_all
def filter_one{σ:LQ Nat}(hn:σ.Nodup){e}(he:e∈σ):σ.filter λi=>i==e=[e]:=by
 induction σ with
 | nil=>cases he
 | cons c r a =>
  rw[zbz]at hn;by_cases H:c=e
  .subst H;have:r.filter (λi=>i==c)=[]:=zfq.2 λi hi h=>hn.1 (by rw[zes]at h;simp_all);rw[zby,beq_self_eq_true,zab rfl,this]
  grind
def zQ.one{l p σ}(hs:zQ l p σ){e}(he:e<p):σ.filter (λi=>[e].any λe=>Nat.beq e i)=[e]:=by
 have h1:(λi=>[e].any λe=>Nat.beq e i)=λi=>i==e:=by
  funext i;simp only[zdz,List.any_nil,zea];rw[zbt,Nat.beq_eq,zes,eq_comm]
 rw[h1];exact filter_one hs.nodup ((hs.mem e).2 he)
def Qk{σ:LQ Nat}(hn:σ.Nodup){a b}(p:a≠b)(ha:a∈σ)(j:b∈σ) q(H:∀i,q i=(i==a || i==b)):σ.filter q=[a,b]∨σ.filter q=[b,a]:=by
 induction σ with
 | nil=>cases ha
 | cons c r k =>
  rw[zbz]at hn;by_cases h:c=a
  .subst h;left;have d:b∈r:=(zao.1 j).resolve_left (zcq p);rw[zby,H,beq_self_eq_true,Bool.true_or,zab rfl];congr 1;have:r.filter q=r.filter λi=>i==b:=zdx λi hi=>by
    have:i≠c:=λe=>hn.1 (e▸hi)
    rw[H];grind
   rw[this];exact filter_one hn.2 d
  .by_cases f:c=b
   .subst f;right;have g:a∈r:=(zao.1 ha).resolve_left (zcq h);rw[zby,H,beq_self_eq_true,Bool.or_true,zab rfl];congr 1;have:r.filter q=r.filter λi=>i==a:=zdx λi hi=>by
     have:i≠c:=λe=>hn.1 (e▸hi)
     rw[H];grind
    rw[this];exact filter_one hn.2 g
   grind
def zQ.two{l p σ}(hs:zQ l p σ){a b}(H:a≠b)(ha:a<p)(c:b<p):
  σ.filter (λi=>[a,b].any λe=>Nat.beq e i)=[a,b]∨σ.filter (λi=>[b,a].any λe=>Nat.beq e i)=[b,a]:=by
 have q1:∀i,([a,b].any λe=>Nat.beq e i)=(i==a || i==b):=λi=>by
  simp only[zdz,List.any_nil,zea];rw[zbt];simp only[zcj,Nat.beq_eq,zes];omega
 have q2:∀i,([b,a].any λe=>Nat.beq e i)=(i==a || i==b):=λi=>by
  simp only[zdz,List.any_nil,zea];rw[zbt];simp only[zcj,Nat.beq_eq,zes];omega
 rcases Qk hs.nodup H ((hs.mem a).2 ha) ((hs.mem b).2 c) _ q1 with h|h
 .grind
 simp_all
def zQ.two'{l p σ}(hs:zQ l p σ){a b}(ha:a<p)(H:b<p)(hm:((cn l []).getD b 0).testBit a=true):
  σ.filter (λi=>[a,b].any λe=>Nat.beq e i)=[a,b]:=by
 have d:a≠b:=by
  rintro rfl;obtain⟨x,y,U⟩:=zeu ((hs.mem a).2 ha);have h1:=hs.mask x a y U a hm;have:=hs.nodup;rw[U,zdi]at this
  grind
 rcases hs.two d ha H with h|h
 .exact h
 .exfalso;obtain⟨x,y,U⟩:=zeu ((hs.mem b).2 H);have h1:=hs.mask x b y U a hm;rw[U,zfk]at h;have q:([b,a].any λe=>Nat.beq e b)=true:=by simp
  rw[zby,q]at h;have h2:a∈x.filter λi=>[b,a].any λe=>Nat.beq e i:=zcx.2 ⟨h1,by simp⟩
  obtain⟨u,v,f⟩:=zeu h2;have hl:=zaq List.length h;have g:b ∉ x:=by
   have:=hs.nodup;rw[U,zdi]at this
   grind
  cases hx:x.filter λi=>[b,a].any λe=>Nat.beq e i with
  | nil=>rw[hx]at h2;cases h2
  | cons c r =>
   rw[hx]at h
   grind
def o6(P:uG)(f:Ctx)(N:Nat)(S:Start)(Q:EV->St->Prop)(l:List Oper)(p:Nat)(E:List Nat)(fw:List St)(i:Nat)(os:List Oper)(k:List Item)(env:Env):=
 ∃xs x,fw[E.length]?=some x/\vT P N S.base l E fw i os xs env/\bO P f N S Q l (l.drop p) k (eo env os xs) x
variable {l:List Oper}{p:Nat}{E:List Nat}{fw:List St}{i:Nat}{os:List Oper}{env:Env}{st:St}{d:Option Tmp}{op:Op}{ty:uE}{pos:String}{after:uD Edge}{x:EV}
def o6.nil{x}(H:fw[E.length]?=some x)(h:bO P f N S Q l (l.drop p) k env x):o6 P f N S Q l p E fw i [] k env:=⟨[],x,H,trivial,h⟩
def KY(P:uG)(l:List Oper)(env:Env)(o:Oper)(x:EV):List St->Prop
 | []=>True
 | s::r=>zd P (jJ l o env) s o x/\KY P l env o x r
def KY.all{o P l env x}(H:o.guard=none):∀{a},KY P l env o x a->UE a λs=>uR P l (jJ l o env) s o x
 | [],_=>trivial
 | s::r,h=>⟨.inl ⟨H,h.1⟩,KY.all H h.2⟩
theorem o6.g(lo hi)(h:KY P l env ⟨d,op,ty,pos,after,none⟩ x ((fw.take (hi+1)).drop lo))(H:(!E.any λe=>Nat.beq e i)=true)(a:GA l E i lo hi=true)(b:eE N d=true)
  (hk:o6 P f N S Q l p E fw (i+1) os k (env.put d x)):o6 P f N S Q l p E fw i (⟨d,op,ty,pos,after,none⟩::os) k env:=by
 obtain⟨xs,c,h0,h1,h2⟩:=hk;exact⟨x::xs,c,h0,⟨⟨b,.inl ⟨lo,hi,H,a,h.all rfl⟩⟩,h1⟩,h2⟩
def o6.v{s H} m(h:uL P S.base (jJ l ⟨d,op,ty,pos,after,none⟩ env) s ⟨d,op,ty,pos,after,none⟩ x H)(a:E[m]?=some i)(h1:fw[m]?=some s)(h2:fw[m+1]?=some H)(b:eE N d=true)
  (hk:o6 P f N S Q l p E fw (i+1) os k (env.put d x)):o6 P f N S Q l p E fw i (⟨d,op,ty,pos,after,none⟩::os) k env:=by
 obtain⟨xs,c,h0,h3,h4⟩:=hk;exact⟨x::xs,c,h0,⟨⟨b,.inr ⟨m,s,H,a,h1,h2,rfl,.inl h⟩⟩,h3⟩,h4⟩
def o6.u{s H} m(h:ID P S.base (jJ l ⟨d,op,ty,pos,after,none⟩ env) s ⟨d,op,ty,pos,after,none⟩ H)(a:E[m]?=some i)(h1:fw[m]?=some s)(h2:fw[m+1]?=some H)(b:eE N d=true)
  (hk:o6 P f N S Q l p E fw (i+1) os k (env.put d (.d .any))):o6 P f N S Q l p E fw i (⟨d,op,ty,pos,after,none⟩::os) k env:=by
 obtain⟨xs,x,h0,h3,h4⟩:=hk;exact⟨.d .any::xs,x,h0,⟨⟨b,.inr ⟨m,s,H,a,h1,h2,rfl,.inr (.inl ⟨rfl,h⟩)⟩⟩,h3⟩,h4⟩
theorem o6.c{s H} m(h:OpC P S.base (jJ l ⟨d,op,ty,pos,after,none⟩ env) s ⟨d,op,ty,pos,after,none⟩ x H)(a:E[m]?=some i)(h1:fw[m]?=some s)(h2:fw[m+1]?=some H)(b:eE N d=true)
  (hk:o6 P f N S Q l p E fw (i+1) os k (env.put d x)):o6 P f N S Q l p E fw i (⟨d,op,ty,pos,after,none⟩::os) k env:=by
 obtain⟨xs,e,h0,h3,h4⟩:=hk;exact⟨x::xs,e,h0,⟨⟨b,.inr ⟨m,s,H,a,h1,h2,rfl,.inr (.inr h)⟩⟩,h3⟩,h4⟩
def aE.tx{σ env st}(H:dB l p=true)(hs:zQ l p σ)(a:σ.filter (λi=>E.any λe=>Nat.beq e i)=E)(h0:fw[0]?=some st)(h:o6 P f N S Q l p E fw 0 (l.take p) k env):
  aE P f N S Q (.inRegion l.toArray (σ++List.range' p (l.length-p))::k) env st:=by
 obtain⟨xs,x,h1,h2,h3⟩:=h;exact .effσ H hs E fw a h0 h1 h2 h3
def aE.Se{id l env st}(p a) fw(hm:P.follows .mixedOrders=true)(H:dB l p=true)(ha:a<p)(h0:fw[0]?=some st)
  (h:o6 P f N S Q l p [a] fw 0 (l.take p) k env):aE P f N S Q (.code (.region id l.toArray true)::k) env st :=
 .W4 p hm H λ_ b=>.tx H b (b.one ha) h0 h
def aE.orders2{id l env st}(p a b) fw(hm:P.follows .mixedOrders=true)(H:dB l p=true)(ha:a<p)(d:b<p)(e:((cn l []).getD b 0).testBit a=true)(h0:fw[0]?=some st)
  (h:o6 P f N S Q l p [a,b] fw 0 (l.take p) k env):aE P f N S Q (.code (.region id l.toArray true)::k) env st :=
 .W4 p hm H λ_ c=>.tx H c (c.two' ha d e) h0 h
end run
section rules
variable {P:uG}{f:Ctx}{N:Nat}{S:Start}{Q:EV->St->Prop}{k:List Item}{todo:List Item}{base:Nat}{env:Env}{st:St}{ops rest:List Oper}
 {d:Option Tmp} {ty:uE} {pos:String} {after:uD Edge} {gd:Option (Nat×Bool)} {t t2 e:uE} {x y z:uH}
section sl
variable {α:Type}{sz:Nat}{row:α->List D}{l:List α}{ev:EV}{inf:TypeInfo}{tk tk2 n n2:Nat}
def pA{l' zv e0 i}(ht:P.underlying t=some (.slice e))(hi:P.info? e=some inf)(j:inf.zero=some zv)(k:inf.size=sz)(m:zv.cells.size=sz)(o:inf.bytes<=100000)
  (hx:bp env x=some e0) (h0:e0=.d (.e0 sz)∨e0=.d b7) (c:st.ag[tk]?=some ⟨e,sz,0,some ([].map row)⟩) (hy:bp env y=some i) (hs:nE i=some (sz,l'.map row)) (hn:l'.length<=1000000000) :
  uL P base env st ⟨d,.call ⟨.builtin .append,#[x,y],#[t,t]⟩,ty,pos,after,gd⟩ (.vc tk ([]++l').length) (st.aQ tk ⟨e,sz,([]++l').length,some (([]++l').map row)⟩):=by
 intro g w tmps H f;have a:cq g.lim w (.e0 sz) (Act.eval ⟨tmps,[]⟩ x):=by
  rcases h0 with rfl|rfl
  .cases aq f hx with|d _ _ h=>exact h
  .rw[(aq f hx).aO];exact .e0 sz none (.inl rfl)
 have b:tk<st.ag.length:=(zad.1 c).1;have p:aY g w st (.vc tk 0) (Act.eval ⟨tmps,[]⟩ x):=by
  generalize hv:Act.eval ⟨tmps,[]⟩ x=v at a;cases a with|e0 _ A u=>exact WV b c ⟨A,rfl⟩
 obtain⟨n,r⟩:=rP (P:=P) (i7 hs (aq f hy));obtain⟨v',g',w',q,s,k2,k3⟩:=EL (ty:=ty) (l:=([]:LQ α)) ht ht (.inr ⟨e,rfl⟩) hi j k m o H p c (by simp_all) r;exact⟨v',g',w',by simp[execOp,resolve,invoke,builtin,q],s,k2,k3⟩
end sl
def aE.tokP{e sz:Nat}(h:aE P f N S Q todo env (st.tok ⟨e,sz,0,some []⟩)):aE P f N S Q todo env st:=by
 intro g w tmps H a b c;obtain⟨g',h1,_,_,h2,h3⟩:=H.tn ⟨e,sz,0,some []⟩ (World.ownsRow_nil w S.base _ _) (.inl ⟨rfl,rfl⟩) (λrows d=>by cases d;exact⟨rfl,by simp,by simp⟩);exact h g' w tmps h2 (a.step h3) (b.mono h3.cU) c
end rules
def kF(L:Nat->Bool):List Nat->Nat
 | []=>0
 | e::r=>(if L e then 1 else 0)+2*kF L r
def Dz(L):∀E (j e),E[j]?=some e->(kF L E).testBit j=L e
 | e::r,0,e',h=>by
  simp at h;subst h;unfold kF;cases H:L e<;>simp[Nat.testBit_zero]<;>omega
 | e::r,j+1,e',h=>by
  have i:=Dz L r j e' (by grind);unfold kF;rw[Nat.testBit_succ];have:((if L e then 1 else 0)+2*kF L r) / 2=kF L r:=by cases L e<;>simp<;>omega
  rw[this];exact i
def No(L):∀E:LQ Nat,kF L E<2 ^ E.length
 | []=>by simp[kF]
 | e::r=>by
  have:=No L r;unfold kF;rw[zap,Nat.pow_succ];cases L e<;>simp<;>omega
def Av{L H}:∀{E},(∀e∈E,H e=L e)->kF H E=kF L E
 | [],_=>rfl
 | e::r,h=>by
  unfold kF;rw[h e zal,Av λx hx=>h x (zak _ hx)]
def JE{L i}(hi:L i=false):∀{E m},E.Nodup->E[m]?=some i->kF (λj=>j==i || L j) E=kF L E+2 ^ m
 | e::r,0,hn,h=>by
  simp at h;subst h;rw[zbz]at hn;unfold kF;rw[Av (L:=L) (E:=r) λx hx=>by
   have:x≠e:=λH=>hn.1 (H▸hx)
   grind]
  grind
 | e::r,m+1,hn,h=>by
  rw[zbz]at hn;have h':r[m]?=some i:=by grind
  have a:=JE hi hn.2 h';have d:e≠i:=λH=>hn.1 (H▸zav h')
  unfold kF;rw[a,Nat.pow_succ];have:(e==i)=false:=by simp_all
  grind
def mayN(l:List Oper)(E:List Nat)(i n:Nat):=
 E.zipIdx.all λe=>(!((cn l []).getD i 0).testBit e.1 || n.testBit e.2) && (!(((cn l []).getD e.1 0).testBit i || Nat.beq e.1 i) || !n.testBit e.2) && (!n.testBit e.2 || E.zipIdx.all λe'=>!((cn l []).getD e.1 0).testBit e'.1 || n.testBit e'.2)
def KZ(l:List Oper)(E:List Nat)(i:Nat)(h:List Nat):= (List.range (2 ^ E.length)).all λn=>!mayN l E i n || h.any λk=>Nat.beq k n
section run
variable {P:uG}{f:Ctx}{N:Nat}{S:Start}{Q:EV->St->Prop}{k:List Item}
def Np(fw:List St):List Nat->(St->Prop)->Prop
 | [],_=>True
 | n::r,p=>(∃s,fw[n]?=some s/\p s)/\Np fw r p
def Np.get{fw p}:∀{H n},Np fw H p->n∈H->∃s,fw[n]?=some s/\p s
 | a::r,n,h,hn=>by
  rcases zao.1 hn with e|e
  .rw[e];exact h.1
  .exact Np.get h.2 e
def Nq(fw:List St)(d:Nat):List Nat->(St->St->Prop)->Prop
 | [],_=>True
 | n::r,p=>(∃s h,fw[n]?=some s/\fw[n+d]?=some h/\p s h)/\Nq fw d r p
def Nq.get{fw d p}:∀{H n},Nq fw d H p->n∈H->∃s b,fw[n]?=some s/\fw[n+d]?=some b/\p s b
 | a::r,n,h,hn=>by
  rcases zao.1 hn with e|e
  .rw[e];exact h.1
  .exact Nq.get h.2 e
def NStep(P:uG)(N base:Nat)(l:List Oper)(E:List Nat)(fw:List St)(i:Nat)(o:Oper)(env:Env)(x:EV):=
  eE N o.dst=true/\∃n,KZ l E i n=true /\
  ((!E.any λe=>Nat.beq e i)=true/\((∀s,uR P l env s o x)∨Np fw n λs=>uR P l env s o x) ∨
   ∃m,E[m]?=some i/\o.guard=none/\Nq fw (2 ^ m) n λs h=>uL P base env s o x h∨x=.d .any/\ID P base env s o h)
def vU(P:uG)(N base:Nat)(l:List Oper)(E:List Nat)(fw:List St):Nat->List Oper->List EV->Env->Prop
 | _,[],[],_=>True
 | i,o::os,x::xs,env=>NStep P N base l E fw i o (jJ l o env) x/\vU P N base l E fw (i+1) os xs (env.put o.dst x)
 | _,_,_,_=>False
def vU.length{base l E fw}:∀{i os xs env},vU P N base l E fw i os xs env->xs.length=os.length
 | _,[],[],_,_=>rfl
 | _,o::os,x::xs,env,h=>by simp[vU.length h.2]
 | _,[],x::xs,_,h=>h.elim
 | _,o::os,[],_,h=>h.elim
def vU.get{base l E fw}:∀{i os xs env j o},vU P N base l E fw i os xs env->os[j]?=some o ->
  ∃x,xs[j]?=some x/\NStep P N base l E fw (i+j) o (jJ l o (eo env (os.take j) (xs.take j))) x
 | i,o'::os,x::xs,env,0,o,h,H=>by
  simp at H;subst H;exact⟨x,rfl,by simpa[eo] using h.1⟩
 | i,o'::os,x::xs,env,j+1,o,h,H=>by
  obtain⟨y,h1,h2⟩:=vU.get (j:=j) h.2 (by simpa using H);exact⟨y,by simp_all,by simpa[eo,zcw,zfi 1 j] using h2⟩
 | i,[],xs,env,j,o,h,H=>by simp at H
 | i,o'::os,[],_,_,_,h,_=>h.elim
def aE.effN{id l p env st D}(hm:P.follows .mixedOrders=true)(F:dB l p=true) E fw(hn:E.Nodup)(hp:∀e∈E,e<p){xs}
  (h0:fw[0]?=some st) (hF:fw[2 ^ E.length-1]?=some D) (G:vU P N S.base l E fw 0 (l.take p) xs env) (Fb:bO P f N S Q l (l.drop p) k (eo env (l.take p) xs) D) :
  aE P f N S Q (.code (.region id l.toArray true)::k) env st:=by
 have KD:p<=l.length:=by
  simp only[dB,zam]at F;simp_all
 have v:xs.length=p:=by rw[G.length];grind
 have H:∀E:LQ Nat,kF (λ_=>false) E=0:=by
  intro E
  induction E with
  | nil=>rfl
  | cons e r w=>unfold kF;rw[w];rfl
 have t:∀(L:Nat->Bool) (E:LQ Nat),(∀e∈E,L e=true)->kF L E=2 ^ E.length-1:=by
  intro L E
  induction E with
  | nil=>intro _;rfl
  | cons e r w =>
   intro h;unfold kF;rw[h e zal,w λx hx=>h x (zak _ hx),zap,Nat.pow_succ];have:=Nat.two_pow_pos r.length
   grind
 refine aE.WY p xs (λL s=>fw[kF L E]?=some s) hm F v (by rw[H];exact h0) ?_ ?_
 .intro L s i o hi M y sg b a;obtain⟨x,hx,u⟩:=G.get (j:=i) (o:=o) (by rw[zah,zab hi];exact M);rw[zbh]at u;obtain⟨O,R,T,u⟩:=u;refine⟨O,x,?_⟩;have c:mayN l E i (kF L E)=true:=by
   unfold mayN;rw[zbf];rintro⟨e,j⟩ z;have A:E[j]?=some e:=by
    have:=zez.1 z;omega
   have U:=Dz L E j e A;simp only[zam,zcj,zdy,U];refine⟨⟨?_,?_⟩,?_⟩
   .grind
   .cases V:((cn l []).getD e 0).testBit i with
    | false =>
     cases W:Nat.beq e i with
     | false=>simp_all
     | true=>simp_all
    | true =>
     grind
   .cases X:L e with
    | false=>simp_all
    | true =>
     right;rw[zbf];rintro⟨e',I⟩ d;have g:E[I]?=some e':=by
      have:=zez.1 d;omega
     simp only[zcj,zdy,Dz L E I e' g]
     grind
  have J:kF L E∈R:=by
   have:=zbf.1 T (kF L E) (List.mem_range.2 (No L E));rw[c]at this;simp_all
  rcases u with⟨dz,B⟩|⟨m,C,K,B⟩
  .have n:(E.any λe=>Nat.beq e i)=false:=by simp_all
   have q:uR P l (jJ l o (eo env ((l.take p).take i) (xs.take i))) s o x:=by
    rcases B with h|h
    .exact h s
    .obtain⟨s0,h1,h2⟩:=h.get J;rw[a]at h1;simp_all
   refine⟨s,hx,.inl ⟨rfl,q⟩,?_⟩;rw[Av (L:=L) λe Y=>by
    have:e≠i:=λZ=>by
     have:=zew.1 n e Y;rw[Z,zef]at this;simp_all
    grind]
   exact a
  .obtain⟨s0,s1,h1,h2,h3⟩:=B.get J;rw[a]at h1;cases h1;refine⟨s1,hx,?_,?_⟩
   .rcases h3 with h|⟨ha,iC⟩
    .exact .inr (.inl ⟨K,h⟩)
    .exact .inr (.inr ⟨K,ha,iC⟩)
   .rw[JE y hn C];exact h2
 grind
def DA(P:uG)(f:Ctx)(N:Nat)(S:Start)(Q:EV->St->Prop)(l:List Oper)(p:Nat)(E:List Nat)(fw:List St)(i:Nat)(os:List Oper)(k:List Item)(env:Env):=
 ∃xs x,fw[2 ^ E.length-1]?=some x/\vU P N S.base l E fw i os xs env/\bO P f N S Q l (l.drop p) k (eo env os xs) x
variable {l:List Oper}{p:Nat}{E:List Nat}{fw:List St}{i:Nat}{os:List Oper}{env:Env}{st:St}{d:Option Tmp}{op:Op}{ty:uE}{pos:String}{after:uD Edge}{x:EV}
def DA.nil{x}(H:fw[2 ^ E.length-1]?=some x)(h:bO P f N S Q l (l.drop p) k env x):DA P f N S Q l p E fw i [] k env:=⟨[],x,H,trivial,h⟩
theorem DA.s(h:∀s,aG P (jJ l ⟨d,op,ty,pos,after,none⟩ env) s ⟨d,op,ty,pos,after,none⟩ x)(H:(!E.any λe=>Nat.beq e i)=true)(a:eE N d=true)
  (hk:DA P f N S Q l p E fw (i+1) os k (env.put d x)):DA P f N S Q l p E fw i (⟨d,op,ty,pos,after,none⟩::os) k env:=by
 obtain⟨xs,b,h0,h1,h2⟩:=hk;refine⟨x::xs,b,h0,⟨⟨a,List.range (2 ^ E.length),?_,.inl ⟨H,.inl λs=>.inl ⟨rfl,(h s).g⟩⟩⟩,h1⟩,h2⟩;unfold KZ;rw[zbf];simp_all
theorem DA.g n(h:Np fw n λs=>zd P (jJ l ⟨d,op,ty,pos,after,none⟩ env) s ⟨d,op,ty,pos,after,none⟩ x)(H:(!E.any λe=>Nat.beq e i)=true)(c:KZ l E i n=true)(j:eE N d=true)
  (hk:DA P f N S Q l p E fw (i+1) os k (env.put d x)):DA P f N S Q l p E fw i (⟨d,op,ty,pos,after,none⟩::os) k env:=by
 obtain⟨xs,m,h0,h1,h2⟩:=hk;refine⟨x::xs,m,h0,⟨⟨j,n,c,.inl ⟨H,.inr ?_⟩⟩,h1⟩,h2⟩;have mk:∀{n:LQ Nat},(Np fw n λs=>zd P (jJ l ⟨d,op,ty,pos,after,none⟩ env) s ⟨d,op,ty,pos,after,none⟩ x)->Np fw n λs=>uR P l (jJ l ⟨d,op,ty,pos,after,none⟩ env) s ⟨d,op,ty,pos,after,none⟩ x:=by
  intro n
  induction n with
  | nil=>exact λ_=>trivial
  | cons a r o=>exact λ⟨⟨s,q,t⟩,b⟩=>⟨⟨s,q,.inl ⟨rfl,t⟩⟩,o b⟩
 exact mk h
def DA.v m n(h:Nq fw (2 ^ m) n λs H=>uL P S.base (jJ l ⟨d,op,ty,pos,after,none⟩ env) s ⟨d,op,ty,pos,after,none⟩ x H)(c:E[m]?=some i)(e:KZ l E i n=true)(g:eE N d=true)
  (hk:DA P f N S Q l p E fw (i+1) os k (env.put d x)):DA P f N S Q l p E fw i (⟨d,op,ty,pos,after,none⟩::os) k env:=by
 obtain⟨xs,j,h0,h3,h4⟩:=hk;refine⟨x::xs,j,h0,⟨⟨g,n,e,.inr ⟨m,c,rfl,?_⟩⟩,h3⟩,h4⟩;have mk:∀{n:LQ Nat},(Nq fw (2 ^ m) n λs H=>uL P S.base (jJ l ⟨d,op,ty,pos,after,none⟩ env) s ⟨d,op,ty,pos,after,none⟩ x H) ->
   Nq fw (2 ^ m) n λs H=>uL P S.base (jJ l ⟨d,op,ty,pos,after,none⟩ env) s ⟨d,op,ty,pos,after,none⟩ x H∨x=.d .any/\ID P S.base (jJ l ⟨d,op,ty,pos,after,none⟩ env) s ⟨d,op,ty,pos,after,none⟩ H:=by
  intro n
  induction n with
  | nil=>exact λ_=>trivial
  | cons a r o=>exact λ⟨⟨s,H,q,t,u⟩,b⟩=>⟨⟨s,H,q,t,.inl u⟩,o b⟩
 exact mk h
def aE.parts{id} p E fw(hm:P.follows .mixedOrders=true)(H:dB l p=true)(hn:(E.all λe=>decide (e<p))=true)(a:E.Nodup)(h0:fw[0]?=some st)
  (h:DA P f N S Q l p E fw 0 (l.take p) k env):aE P f N S Q (.code (.region id l.toArray true)::k) env st:=by
 obtain⟨xs,x,h1,h2,h3⟩:=h;exact .effN hm H E fw a (λe b=>by simp_all) h0 h1 h2 h3
end run
def BL(g:eI)(w:uC)(st:St)(cs:List EV)(vs:uD uB):=
 vs.size=cs.length/\∀(i:Nat) c (u),cs[i]?=some c->vs[i]?=some u->aY g w st c u/\u.oneCell'=true
def BL.lay{g w st cs new vs us off}(h:BL g w st cs vs)(hn:BL g w st new us)(b:off+new.length<=cs.length):BL g w st (putCells cs off new) (lay vs us off):=by
 obtain⟨h1,h2⟩:=KC vs us off (by rw[h.1,hn.1];exact b);refine⟨by rw[h1,h.1];simp[putCells];omega,λi c u H a=>?_⟩
 have hi:i<vs.size:=by rw[←h1];grind
 rw[h2 i hi]at a;unfold putCells at H;have x:=h.1;have U:=hn.1;by_cases d:i<off
 .rw[zaa (by omega)]at a;rw[zas,zaj (by grind),zah,zab d]at H;exact h.2 i c u H a
 .by_cases j:i<off+new.length
  .rw[zab (by omega)]at a;rw[zas,zan (by grind),zaj (by grind)]at H;have e:(cs.take off).length=off:=by grind
   rw[e]at H;exact hn.2 _ c u H a
  .rw[zaa (by omega)]at a;rw[zan (by grind)]at H;have e:(cs.take off++new).length=off+new.length:=by grind
   rw[e,zbd]at H;have f:off+new.length+(i-(off+new.length))=i:=by omega
   rw[f]at H;exact h.2 i c u H a
def Ql(place:Nat->Option (Nat×Nat))(env:Env):List EV->List (Nat×uH)->Option (List EV)
 | cs,[]=>some cs
 | cs,(i,x)::l=>match place i,bp env x with
  | some (off,size),some e=>match ek e with
   | some new=>match Nat.beq new.length size,Nat.ble (off+size) cs.length with
    | true,true=>Ql place env (putCells cs off new) l
    | _,_=>none
   | none=>none
  | _,_=>none
def GB{g w st env tmps}(he:cT g w st env tmps){place}:∀l cs vs r,Ql place env cs l=some r->BL g w st cs vs ->
  ∃us,Instr.fill place vs (l.map λp=>(p.1,Act.eval ⟨tmps,[]⟩ p.2))=some us/\BL g w st r us/\r.length=cs.length
 | [],cs,vs,r,h,b=>by simp[Ql]at h;subst h;exact⟨vs,rfl,b,rfl⟩
 | (i,x)::l,cs,vs,r,h,b=>by
  unfold Ql at h;split at h
  .rename_i off size e c hx;split at h
   .rename_i new hn;split at h
    .rename_i I E;have h1:=zai I;have h2:=zae E;have H:BL g w st new (Act.eval ⟨tmps,[]⟩ x).cells:=nD hn (aq he hx);have a:=b.lay H (off:=off) (by omega);obtain⟨us,k,k2,k3⟩:=GB he l _ _ r h a;refine⟨us,?_,k2,by rw[k3];simp[putCells];omega⟩;have hs:=H.1;have d:=b.1;simp only[zbb,Instr.fill,c];rw[zaa (by grind)];exact k
    .cases h
   .cases h
  .cases h
section rules
variable {P:uG}{base:Nat}{env:Env}{st:St}{d:Option Tmp}{ty:uE}{pos:String}{after:uD Edge}{gd:Option (Nat×Bool)}{t:uE}
def UG{h inf z H r l}(ht:P.underlying t=some (.struct h))(hi:P.info? t=some inf)(j:inf.zero=some z)(k:ek (.d (cv z))=some H)
  (a:h.toList.all (λf=>(P.info? f.type).isSome)=true) (hl:Ql (placeOf P h) env H l=some r):aG P env st ⟨d,.build t l.toArray,ty,pos,after,gd⟩ (.agg r):=by
 intro g base w tmps e m;have n:BL g w st H z.cells:=nD (g:=g) (w:=w) (st:=st) k (.d _ _ (nC _ _ z));obtain⟨us,h1,h2,h3⟩:=GB m l H z.cells r hl n;refine⟨.agg us,.agg r us h2.1 (λi u b=>?_) λi c u o b=>(h2.2 i c u o b).1,λw' q=>?_⟩
 .have hi':i<r.length:=by rw[←h2.1];grind
  exact(h2.2 i _ u (zaf hi') b).2
 .have K:(h.mapM (λf=>do pure (f.offset,←sizeOf f.type):Field->Sem (Nat×Nat))).run P w'=.ok (h.toList.map λf=>(f.offset,rn P f.type)).toArray w':=by
   rw[←zfz (xs:=h),zev];simp only[Sem.run_map,xp (P:=P) h.toList (λf p=>zbf.1 a f p) w',Result.andThen_ok]
  have G:(λi:Nat=>((h.toList.map λf=>(f.offset,rn P f.type)).toArray)[i]?)=placeOf P h:=by
   funext i;simp[placeOf]
  simp only[execOp,Instr.build,Sem.run_bind,ja hi j,Result.andThen_ok,run_underlying ht,K,zed];rw[G];simp[h1]
def GC{ps inf z H r l}(h:sn P t=some ps)(hi:P.info? t=some inf)(a:inf.zero=some z)(k:ek (.d (cv z))=some H)
  (hl:Ql (λi=>ps[i]?) env H l=some r):aG P env st ⟨d,.build t l.toArray,ty,pos,after,gd⟩ (.agg r):=by
 unfold sn at h;split at h
 .rename_i f b;split at h
  .rename_i j;cases h;refine UG b hi a k j ?_;rw[←hl];congr 1;funext i;simp[placeOf]
  grind
 grind
end rules
section cell
variable {P:uG}{f:Ctx}{N:Nat}{S:Start}{Q:EV->St->Prop}{todo:List Item}{env:Env}{st:St}
def Inv.vV{g base w o ci T cs x y}(h:Inv g base w st)(d:st.aB[o]?=some (.row T cs))(j:cs[ci]?=some x)(hle:eB x y):
  Inv g base w (st.set o (.row T (cs.set ci y)))/\Step base g w st g w (st.set o (.row T (cs.set ci y))):=by
 obtain⟨b1,b2,vs,k,l,e⟩:=h.row o T cs d;exact h.setBlock (o:=o) (x:=.row T (cs.set ci y)) (w':=w) ⟨_,d,by simp⟩ b2 rfl (λ_ _=>rfl) rfl rfl rfl
  (λH K v m=>by
   cases m;refine⟨vs,k,by simp_all,λi c u a f=>?_⟩;rw[zbg]at a;split at a
   .rename_i b;subst b;split at a
    .cases a;have h0:=e ci _ u j f;exact⟨hle _ _ _ _ (h0.1.mono H),h0.2⟩
    grind
   .have h0:=e i c u a f;exact⟨h0.1.mono H,h0.2⟩) (λ_ es m=>by cases m)
def aE.vV(o ci){T cs x y}(a:st.aB[o]?=some (.row T cs))(b:cs[ci]?=some x)(hle:eB x y)
  (h:aE P f N S Q todo env (st.set o (.row T (cs.set ci y)))):aE P f N S Q todo env st:=by
 intro g w tmps H c d hn;obtain⟨h1,h2⟩:=H.vV a b hle;exact h g w tmps h1 (c.step h2) (d.mono h2.cU) hn
end cell
def Wa{α β:Type}[Inhabited α](c:α->β)(l:List α)(i:Nat)
 | 0=>[]
 | n+1=>c (nth l i)::Wa c l (i+1) n
def vW{α β}[Inhabited α](c:α->β)(l):∀(n i),(Wa c l i n).length=n
 | 0,_=>rfl
 | n+1,i=>by simp[Wa,vW c l n (i+1)]
def BM{α β}[Inhabited α](c:α->β)(l):∀(n i j),j<n->(Wa c l i n)[j]?=some (c (nth l (i+j)))
 | 0,_,_,h=>absurd h (Nat.not_lt_zero _)
 | n+1,i,0,h=>rfl
 | n+1,i,j+1,h=>by
  simp only[Wa,List.getElem?_cons_succ];rw[BM c l n (i+1) j (by omega)]
  grind
def uU{α}[Inhabited α](l:List α)(n i:Nat)(a:α):= (Wa id l 0 n).set i a
def W5{α}[Inhabited α] l(n i)(a:α):(uU l n i a).length=n:=by simp[uU,vW]
def Nr{α}[Inhabited α]{l n i j}{a:α}(H:j<n):nth (uU l n i a) j=if i=j then a else nth l j:=by
 have h:(uU l n i a)[j]?=some (if i=j then a else nth l j):=by
  unfold uU;rw[zbg,vW];by_cases R:i=j
  .simp_all
  .rw[zaa R,zaa R,BM _ _ _ _ _ H];simp
 unfold nth;rw[zbm,h];rfl
def exF_set{α β}[Inhabited α](c:α->β) l{n i}(a):Wa c (uU l n i a) 0 n=(Wa c l 0 n).set i (c a):=by
 apply zbv;intro j;by_cases h:j<n
 .rw[BM _ _ _ _ _ h,zbg,vW];rw[zbh,Nr h];by_cases R:i=j
  .simp_all
  .rw[zaa R,zaa R,BM _ _ _ _ _ h];simp
 .rw[zbu (by rw[vW];omega),zbu (by simp[vW];omega)]
section rules
variable {P:uG}{base:Nat}{env:Env}{st:St}{d:Option Tmp}{ty:uE}{pos:String}{after:uD Edge}{gd:Option (Nat×Bool)}{t e:uE}{x y:uH}
 {α:Type} [Inhabited α] {c1:α->D} {l:List α} {o off n:Nat} {T:uE} {cs:List EV}
def W6{kk i}(ht:P.underlying t=some (.array n e))(hi:∃inf,P.info? e=some inf/\inf.size=1)(hx:bp env x=some (.ref o off))(hy:bp env y=some (.d (.ex (.int kk i))))(h:0<=i/\i<n):
  aG P env st ⟨d,.indexAddr t x y,ty,pos,after,gd⟩ (.ref o (off+i.toNat)):=by
 have:=gH (st:=st) (d:=d) (ty:=ty) (pos:=pos) (after:=after) (gd:=gd) (m:=i.toNat) ht hi hx hy (by omega) (by omega);simp_all
def q_loadK{i}(h1:(P.underlying t).map qH=some true)(hx:bp env x=some (.ref o (off+i)))(h:st.aB[o]?=some (.row T cs))(s:(cs.drop off).take n=Wa (λb=>EV.d (c1 b)) l 0 n)(hi:i<n):
  aG P env st ⟨d,.load t x,ty,pos,after,gd⟩ (.d (c1 (nth l i))):=by
 refine jH h1 hx h ?_;have h2:((cs.drop off).take n)[i]?=some (EV.d (c1 (nth l i))):=by rw[s,BM _ _ _ _ _ hi,zbh]
 rw[zah,zab hi,zbd]at h2;exact h2
def W8{i a}(hx:bp env x=some (.ref o (off+i)))(hy:bp env y=some (.d (c1 a)))(f:st.aB[o]?=some (.row T cs))(s:(cs.drop off).take n=Wa (λb=>EV.d (c1 b)) l 0 n)(g:ek (.d (c1 a))=some [.d (c1 a)])(hi:i<n)
  (hs:(P.info? t).map (·.size)=some 1):ID P base env st ⟨d,.store t x y,ty,pos,after,gd⟩ (st.set o (.row T (cs.take off++Wa (λb=>EV.d (c1 b)) (uU l n i a) 0 n++cs.drop (off+n)))):=by
 have H:off+n<=cs.length:=by
  have h2:((cs.drop off).take n).length=n:=by rw[s,vW]
  rw[zaw,zbc]at h2;omega
 have:=tj (base:=base) (d:=d) (ty:=ty) (pos:=pos) (after:=after) (gd:=gd) hx hy f g (by grind) hs;have k:putCells cs (off+i) [.d (c1 a)]=cs.take off++Wa (λb=>EV.d (c1 b)) (uU l n i a) 0 n++cs.drop (off+n):=by
  rw[exF_set,←s];unfold putCells;apply zbv;intro j;have c:(cs.take off).length=off:=by grind
  have e:(((cs.drop off).take n).set i (EV.d (c1 a))).length=n:=by grind
  by_cases h1:j<off
  .rw[zas,zaj (by grind),zas,zaj (by omega),zah,zah,zab (by omega),zab h1]
  .by_cases h2:j<off+n
   .have m:∀X:LQ EV,X.length=n->(cs.take off++X++cs.drop (off+n))[j]?=X[j-off]?:=λX q=>by
     rw[zas,zan (by omega),c,zaj (by omega)]
    rw[m _ e,zbg];by_cases h3:i=j-off
    .rw[zab h3,zab (by grind),zas,zan (by grind)];have:j-(cs.take (off+i)).length=0:=by grind
     rw[this];rfl
    .rw[zaa h3,zah,zab (by omega),zbd];have e0:off+(j-off)=j:=by omega
     rw[e0];by_cases h4:j<off+i
     .rw[zas,zaj (by simp;omega),zah,zab h4]
     .have h:(cs.take (off+i)++[EV.d (c1 a)]).length=off+i+1:=by grind
      rw[zan (by omega),zbd,h];congr 1;grind
   .have h:(cs.take (off+i)++[EV.d (c1 a)]).length=off+i+1:=by grind
    have p:(cs.take off++((cs.drop off).take n).set i (EV.d (c1 a))).length=off+n:=by rw[zar,c,e]
    rw[zan (by omega),zan (by omega),zbd,zbd,h,p]
    grind
 rwa [k]at this
end rules
def Ns(P:uG)(t:uE)(n:Nat):Bool:=match P.info? t with
 | some i=>Nat.beq i.size n
 | none=>false
def GD(P:uG)(g:uE->Option (List FK)):Nat->List Field->Option (List FK)
 | _,[]=>some []
 | n,f::h=>match Nat.beq f.offset n,decide (f.name ≠ "_"),g f.type with
  | true,true,some k=>match Ns P f.type k.length,GD P g (n+k.length) h with
   | true,some ks=>some (k++ks)
   | _,_=>none
  | _,_,_=>none
def BN(P:uG):Nat->uE->Option (List FK)
 | 0,_=>none
 | d+1,t=>match P.underlying t with
  | some (.struct f)=>match P.stoodInHeld t with
   | true=>none
   | false=>GD P (BN P d) 0 f.toList
  | some (.array n e)=>match d,IU (P.underlying e),Ns P e 1 with
   | h+1,some k,true=>some (List.replicate n k)
   | _,_,_=>none
  | u=>match IU u with
   | some k=>some [k]
   | none=>none
def IY:Option TypeDesc->Bool
 | some (.struct _)=>true
 | some (.array _ _)=>true
 | _=>false
def DB(P:uG)(t:uE)(xs:List uB):uB:=match IY (P.underlying t)with
 | true=>.agg xs.toArray
 | false=>xs.headD undef
def sy:∀{ks xs},fitAll ks xs=true->xs.length=ks.length
 | [],[],_=>rfl
 | [],_::_,h=>by cases h
 | _::_,[],h=>by cases h
 | k::ks,x::xs,h=>by simp only[fitAll,zam]at h;simp[sy h.2]
def vX:∀(ks ls) xs,fitAll (ks++ls) xs=true->fitAll ks (xs.take ks.length)=true/\fitAll ls (xs.drop ks.length)=true
 | [],ls,xs,h=>⟨by simp[fitAll],by grind⟩
 | k::ks,ls,[],h=>by cases h
 | k::ks,ls,x::xs,h=>by
  simp only[List.cons_append,fitAll,zam]at h;obtain⟨h1,h2⟩:=vX ks ls xs h.2;exact⟨by simp[fitAll,h.1,h1],by simp_all⟩
def GF:∀n (xs ys),xs.length=ys.length->jy xs ys=(jy (xs.take n) (ys.take n) && jy (xs.drop n) (ys.drop n))
 | 0,xs,ys,_=>by simp[jy]
 | n+1,[],[],_=>by grind
 | n+1,[],_::_,h=>by cases h
 | n+1,_::_,[],h=>by cases h
 | n+1,x::xs,y::ys,h=>by
  simp only[List.take_succ_cons,List.drop_succ_cons,jy];rw[GF n xs ys (by grind),Bool.and_assoc]
section eq
variable {P:uG}
def K0 t w u(hu:P.underlying t=some u):(isAgg t).run P w=.ok (IY (some u)) w:=by
 unfold isAgg;simp only[Sem.run_bind,run_underlying hu,Result.andThen_ok];cases u<;>rfl
def Nt{t n}(h:Ns P t n=true):∃i,P.info? t=some i/\i.size=n:=by
 unfold Ns at h;split at h
 .simp_all
 .cases h
def JF{d t ks}(h:BN P d t=some ks)(ha:IY (P.underlying t)=false):∃k,IU (P.underlying t)=some k/\ks=[k]:=by
 cases d with
 | zero=>cases h
 | succ d =>
  unfold BN at h;split at h
  .rename_i H;rw[H]at ha;cases ha
  .rename_i H;rw[H]at ha;cases ha
  grind
def JG{d t ks}(h:BN P d t=some ks){X off xs}(hl:xs.length=ks.length)(hs:Ns P t ks.length=true)
  (c:∀j v,xs[j]?=some v->X[off+j]?=some v) (w):(part t X off).run P w=.ok (DB P t xs) w:=by
 obtain⟨i,hi,dE⟩:=Nt hs;cases ha:IY (P.underlying t)with
 | false =>
  obtain⟨k,hk,rfl⟩:=JF h ha
  match xs,hl with
  | [v],_ =>
   have:=uS hk (cs:=X) (off:=off) (v:=v) (by simpa using c 0 v rfl) w;simpa[DB,ha] using this
 | true =>
  cases a:P.underlying t with
  | none=>rw[a]at ha;cases ha
  | some u =>
   have b:=K0 (P:=P) t w u a;rw[a]at ha;rw[ha]at b;have H:DB P t xs=.agg xs.toArray:=by unfold DB;rw[a,ha]
   have hx:X.extract off (off+ks.length)=xs.toArray:=by
    apply Array.ext';apply zbv
    grind
   simp only[part,Sem.run_bind,b,Result.andThen_ok,zce,cM hi,dE,hx,H,Sem.run_pure]
def JH{d} n w(i:∀t ks (xs ys),BN P d t=some ks->fitAll ks xs=true->fitAll ks ys=true->(Op.equalIn (n+d) t (DB P t xs) (DB P t ys)).run P w=.ok (jy xs ys) w):
  ∀(H) (k) (ks) (xs ys) (X Y),GD P (BN P d) k H=some ks->fitAll ks xs=true->fitAll ks ys=true ->
  (∀j v,xs[j]?=some v->X[k+j]?=some v)->(∀j v,ys[j]?=some v->Y[k+j]?=some v)->(Op.eqFields (n+d) X Y H).run P w=.ok (jy xs ys) w
 | [],k,ks,xs,ys,X,Y,h,hx,hy,_,_=>by
  simp only[GD,Option.some.injEq]at h;subst h
  match xs,ys with
  | [],[]=>rfl
  | _::_,_=>cases hx
  | [],_::_=>cases hy
 | f::H,k,ks,xs,ys,X,Y,h,hx,hy,c,e=>by
  unfold GD at h;split at h
  .rename_i kk h1 h2 h3;split at h
   .rename_i a h4 g;simp only[Option.some.injEq]at h;subst h;have q:=zai h1;have R:f.name ≠ "_" := zbk h2;obtain⟨b,a2⟩:=vX _ _ _ hx;obtain⟨b1,b2⟩:=vX _ _ _ hy;have l:=sy hx;have m:=sy hy;have p:=JG h3 (X:=X) (off:=f.offset) (sy b) h4 (λj v hv=>by
     rw[zah]at hv;simp_all) w
    have o:=JG h3 (X:=Y) (off:=f.offset) (sy b1) h4 (λj v hv=>by
     rw[zah]at hv;simp_all) w
    have pe:=i _ _ _ _ h3 b b1;have rest:=JH n w i H (k+kk.length) a _ _ X Y g a2 b2 (λj v hv=>by rw[zbd]at hv;have:=c _ v hv;rwa [show k+kk.length+j=k+(kk.length+j) by omega])
     (λj v hv=>by rw[zbd]at hv;have:=e _ v hv;rwa [show k+kk.length+j=k+(kk.length+j) by omega])
    rw[GF kk.length xs ys (by omega)];simp only[Op.eqFields,zab R,Sem.run_bind,p,o,pe,Result.andThen_ok,Sem.run_ite];cases jy (xs.take kk.length) (ys.take kk.length)
    .rfl
    simp_all
   .cases h
  .cases h
def JI{e k}(hk:IU (P.underlying e)=some k)(hs:P.cellsOf e=1) n w(X Y):
  ∀(m i) (xs ys),fitAll (List.replicate m k) xs=true->fitAll (List.replicate m k) ys=true ->
  (∀j v,xs[j]?=some v->X[i+j]?=some v)->(∀j v,ys[j]?=some v->Y[i+j]?=some v) ->
  (Op.eqItems (n+1) e (P.cellsOf e) X Y (List.range' i m)).run P w=.ok (jy xs ys) w
 | 0,i,xs,ys,hx,hy,_,_=>by
  match xs,ys with
  | [],[]=>rfl
  | _::_,_=>cases hx
  | [],_::_=>cases hy
 | m+1,i,[],ys,hx,_,_,_=>by cases hx
 | m+1,i,x::xs,[],_,hy,_,_=>by cases hy
 | m+1,i,x::xs,y::ys,hx,hy,h,H=>by
  simp only[List.replicate_succ,fitAll,zam]at hx hy;have p:=uS hk (cs:=X) (off:=i) (by simpa using h 0 x rfl) w;have a:=uS hk (cs:=Y) (off:=i) (by simpa using H 0 y rfl) w;have pe:=xv hk hx.1 hy.1 n w;have b:=JI hk hs n w X Y m (i+1) xs ys hx.2 hy.2 (λj v hv=>by have:=h (j+1) v (by simp_all);rwa [show i+1+j=i+(j+1) by omega]) (λj v hv=>by have:=H (j+1) v (by simp_all);rwa [show i+1+j=i+(j+1) by omega]);rw[hs]at b ⊢;simp only[List.range'_succ,Op.eqItems,Sem.run_bind,Nat.mul_one,p,a,pe,Result.andThen_ok,Sem.run_ite,jy];cases V5 x y
  .rfl
  simp_all
def Nu n(w):∀d t ks (xs ys),BN P d t=some ks->fitAll ks xs=true->fitAll ks ys=true->(Op.equalIn (n+d) t (DB P t xs) (DB P t ys)).run P w=.ok (jy xs ys) w
 | 0,t,ks,xs,ys,h,_,_=>by cases h
 | d+1,t,ks,xs,ys,h,hx,hy=>by
  cases ha:IY (P.underlying t)with
  | false =>
   obtain⟨k,hk,rfl⟩:=JF h ha
   match xs,ys,hx,hy with
   | [x],[y],hx,hy =>
    simp only[fitAll,Bool.and_true]at hx hy;have:=xv hk hx hy (n+d) w;simp only[DB,ha,jy,List.headD_cons,Bool.and_true];exact this
   | [],_,hx,_=>cases hx
   | _::_::_,_,hx,_=>simp[fitAll]at hx
   | [x],[],_,hy=>cases hy
   | [x],_::_::_,_,hy=>simp[fitAll]at hy
  | true =>
   have H:∀z,DB P t z=.agg z.toArray:=λz=>by unfold DB;rw[ha]
   rw[H,H];unfold BN at h;cases a:P.underlying t with
   | none=>rw[a]at ha;cases ha
   | some u =>
    rw[a]at h ha;cases u with
    | struct f =>
     simp only at h;split at h
     .cases h
     .rename_i E;have b:P.fieldsOf t=f:=by simp[Program.fieldsOf,a]
      rw[show n+(d+1)=(n+d)+1 by omega,run_equalIn_struct w (n+d) t _ _ (by rw[b];exact a) E,b];exact JH n w (Nu n w d) f.toList 0 ks xs ys _ _ h hx hy (λj v hv=>by simp_all) (λj v hv=>by simp_all)
    | array m e =>
     simp only at h;split at h
     .rename_i c k hk hs;cases h;obtain⟨i,hi,dE⟩:=Nt hs;have g:P.cellsOf e=1:=by simp[Program.cellsOf,hi,dE]
      rw[show n+(c+1+1)=(n+c+1)+1 by omega,run_equalIn_array w (n+c+1) _ _ a hi,List.range_eq_range'];exact JI hk g (n+c) w _ _ m 0 xs ys hx hy (λj v hv=>by simp_all) (λj v hv=>by simp_all)
     .cases h
    | _=>cases ha
end eq
def BO(P:uG)(t:uE):Option (List FK):=match P.eqGuardType P.depth t,IY (P.underlying t)with
 | false,true=>BN P 4 t
 | _,_=>none
section rules
variable {P:uG}{base:Nat}{env:Env}{st:St}{d:Option Tmp}{ty:uE}{pos:String}{after:uD Edge}{gd:Option (Nat×Bool)}{t t2:uE}{x y:uH}
variable {ks:List FK}{cs ds:List D}{xs ys:List uB}
def Nv(h:BO P t=some ks)(hx:fitAll ks xs=true)(hy:fitAll ks ys=true) w op(x y):
  (eqGuard op t x y (.agg xs.toArray) (.agg ys.toArray)).run P w=.ok () w/\(Op.equalIn 10000 t (.agg xs.toArray) (.agg ys.toArray)).run P w=.ok (jy xs ys) w:=by
 unfold BO at h;split at h
 .rename_i a ha;refine⟨run_eqGuard_agg w op t x y _ _ a,?_⟩;have:=Nu (P:=P) 9996 w 4 t ks xs ys h hx hy;have H:∀z,DB P t z=.agg z.toArray:=λz=>by unfold DB;rw[ha]
  rw[H,H]at this;exact this
 .cases h
section steq
variable (hk:BO P t=some ks)(hx:bp env x=some (.d (.agg cs)))(hy:bp env y=some (.d (.agg ds)))(h1:exs cs=some xs)(h2:exs ds=some ys)(h3:fitAll ks xs=true)(h4:fitAll ks ys=true)
include hk hx hy h1 h2 h3 h4
theorem Sf:aG P env st ⟨d,.binOp .neq t x y t2,ty,pos,after,gd⟩ (.d (.ex (.bool !jy xs ys))):=mG λg w tmps w' H=>by
 obtain⟨k,k2⟩:=Nv hk h3 h4 w' .neq x y;have e:Act.eval ⟨tmps,[]⟩ x=.agg xs.toArray:=by cases aq H hx with|d _ _ h=>exact yK h1 h
 have a:Act.eval ⟨tmps,[]⟩ y=.agg ys.toArray:=by cases aq H hy with|d _ _ h=>exact yK h2 h
 simp only[execOp,e,a,Sem.run_bind,k,Result.andThen_ok,run_neq_struct,k2,Sem.run_pure]
end steq
def W9{a b k ts}(hx:bp env x=some (.d (.ex (.int k a))))(hy:bp env y=some (.d (.ex (.int k b)))):
  aG P env st ⟨d,.call ⟨.builtin .min,#[x,y],ts⟩,ty,pos,after,gd⟩ (.d (.ex (.int k (if b<a then b else a)))):=mG λg w tmps w' h=>by
 simp[execOp,(aq h hx).aO,(aq h hy).aO,resolve,invoke,builtin,run_min_int2]
end rules
section rules
variable {P:uG}{base:Nat}{env:Env}{st:St}{d:Option Tmp}{ty:uE}{pos:String}{after:uD Edge}{gd:Option (Nat×Bool)}{t t2 e:uE}{x y z:uH}
def zR{n:Nat}{inf z H r l}(ht:P.underlying t=some (.slice e))(hi:P.info? e=some inf)(dE:inf.size=1)(b:inf.zero=some z)(k:Nat.beq z.cells.size 1=true)
  (s:(Nat.ble n 16777216 && Nat.blt 0 n)=true) (M:ek (.d (cv z))=some [H]) (hl:Ql (λi=>some (i*1,1)) env (List.replicate n H) l=some r) :
  uL P base env st ⟨d,.buildSlice t n l.toArray,ty,pos,after,gd⟩ (.Da st.aB.length 0 n n) (st.add (.row e r)):=by
 simp only[zam]at s;have K:=zai k;have f:=zae s.1;have J:=gj s.2;intro g w tmps h m;have C:=nD (g:=g) (w:=w) (st:=st) M (.d _ _ (nC _ _ z));have o:BL g w st (List.replicate n H) ((Array.range (n*1)).map (z.cells[· % z.cells.size]!)):=by
  refine⟨by simp,λi c u a q=>?_⟩;have j:i<n:=by have:=(zad.1 a).1;simp_all
  have v:z.cells[0]?=some u:=by
   have:((Array.range (n*1)).map (z.cells[· % z.cells.size]!))[i]?=some (z.cells[i % z.cells.size]!):=by simp[j]
   rw[this]at q
   grind
  have y:c=H:=by
   rw[List.getElem?_replicate,zab j]at a
   grind
  grind
 obtain⟨us,h1,h2,h3⟩:=GB m l _ _ _ hl o;obtain⟨g',hi',hs,A⟩:=h.newObj (.row e r) (.cells us e) (λF G e'=>by cases e';exact⟨_,rfl,h2.1,h2.2⟩) (λes e'=>by cases e')
 refine⟨.slice (some ⟨w.heap.size,0,none⟩) n n,g',_,?_,?_,hi',hs⟩
 .have E:¬(16777216<n*inf.size):=by rw[dE];omega
  have B:¬n*inf.size=0:=by rw[dE];omega
  have D:Instr.fill (λi=>some (i*inf.size,inf.size)) (Array.map (λx=>z.cells[x % z.cells.size]!) (Array.range (n*inf.size))) (List.map (λp=>(p.1,Act.eval ⟨tmps,[]⟩ p.2)) l)=some us:=by rw[dE];exact h1
  simp[execOp,Instr.buildSlice,run_underlying ht,cM hi,E,B,ja hi b,D,newRow]
 .rw[←A];exact .Da _ _ _ _ (by simp[St.add])
def Nw{o off n c}(ht:P.underlying t=some (.slice e))(hx:bp env x=some (.Da o off n c)):
  aG P env st ⟨d,.call ⟨.builtin .len,#[x],#[t]⟩,ty,pos,after,gd⟩ (.d (.ex (.int .i64 n))):=mG λg w tmps w' H=>by
 have h:=aq H hx;generalize hv:Act.eval ⟨tmps,[]⟩ x=v at h;cases h with
 | Da=>exact Bn ht hv w'
def oA{o off n c m:Nat}{inf k i}(ht:P.underlying t=some (.slice e))(hi:P.info? e=some inf)(dE:inf.size=1)(hx:bp env x=some (.Da o off n c))(hy:bp env y=some (.d (.ex (.int k i))))(hm:i=m)(b:m<n):
  aG P env st ⟨d,.indexAddr t x y,ty,pos,after,gd⟩ (.ref o (off+m)):=λg base w tmps H a=>by
 subst hm;have h:=aq a hx;have V:=(aq a hy).aO;generalize hv:Act.eval ⟨tmps,[]⟩ x=v at h;cases h with
 | Da _ _ _ _ r =>
  refine⟨.pointer (some ⟨g.ob o,off+m,none⟩),.ref _ _ r,λw' _=>?_⟩;have:=yG (d:=d) (ty:=ty) (pos:=pos) (after:=after) (gd:=gd) ht hi hv V (by omega) (by omega) w';rw[dE]at this;simpa[Addr.add_lit] using this
variable {α:Type}{c1:α->D}{l:List α}{o:Nat}{T:uE}{cs:List EV}
variable {l':List α}
end rules
section freezeCell
variable {P:uG}{f:Ctx}{N:Nat}{S:Start}{Q:EV->St->Prop}{todo:List Item}{env:Env}{st:St}
def aE.freezeCell{α:Type}{l:LQ α}{row}(o ci){tk e sz n:Nat}{T cs}(k:st.aB[o]?=some (.row T cs))(t:cs[ci]?=some (.vc tk n))(m:st.ag[tk]?=some ⟨e,sz,n,some (l.map row)⟩)
  (h:aE P f N S Q todo env ((st.aQ tk ⟨e,sz,l.length,none⟩).set o (.row T (cs.set ci (.d (.sl sz (l.map row))))))):aE P f N S Q todo env st:=by
 refine .lenV m λhn=>?_
 subst hn;intro g w tmps H v y z;obtain⟨g',h1,h2,h3,h4⟩:=H.freeze m;have I:(st.aQ tk ⟨e,sz,l.length,none⟩).aB[o]?=some (.row T cs):=k;obtain⟨G,a2,a,a3,a4,a5⟩:=H.row o T cs k;obtain⟨b1,b2,vs,r,J,B⟩:=h2.row o T cs I;have C:g'.ob o=g.ob o:=h3.cU.ob o (zad.1 k).1;have D:a=vs:=by rw[C,a3]at r;grind
 subst D;obtain⟨E,k2⟩:=h2.setBlock (o:=o) (x:=.row T (cs.set ci (.d (.sl sz (l.map row))))) (w':=w) ⟨_,I,by simp⟩ b2 rfl (λ_ _=>rfl) rfl rfl rfl
  (λb K L p=>by
   cases p;refine⟨a,r,by simp_all,λi c u j s=>?_⟩;rw[zbg]at j;split at j
   .rename_i q;subst q;split at j
    .cases j;have h0:=a5 ci _ u t s;refine⟨?_,h0.2⟩;rcases qu H m h0.1 with hv|⟨M,F,A,hv⟩
     .rw[hv];exact .d _ _ (h4.mono b.bp)
     .rw[F,hv];exact .d _ _ (.nil sz A)
    grind
   .have h0:=B i c u j s;exact⟨h0.1.mono b,h0.2⟩) (λ_ es p=>by cases p)
 exact h g' w tmps E (v.step (h3.trans k2)) ((y.mono h3.cU).mono k2.cU) z
variable {ops rest:List Oper}{k:List Item}
def bO.freezeCell{α:Type}{l:LQ α}{row}(o ci){tk e sz n:Nat}{T cs}(H:st.aB[o]?=some (.row T cs))(a:cs[ci]?=some (.vc tk n))(b:st.ag[tk]?=some ⟨e,sz,n,some (l.map row)⟩)
  (h:bO P f N S Q ops rest k env ((st.aQ tk ⟨e,sz,l.length,none⟩).set o (.row T (cs.set ci (.d (.sl sz (l.map row))))))):bO P f N S Q ops rest k env st :=
 λj c=>.freezeCell o ci H a b (h j c)
def bO.vV(o ci){T cs x y}(H:st.aB[o]?=some (.row T cs))(a:cs[ci]?=some x)(hle:eB x y)
  (h:bO P f N S Q ops rest k env (st.set o (.row T (cs.set ci y)))):bO P f N S Q ops rest k env st :=
 λj b=>.vV o ci H a hle (h j b)
end freezeCell
def IZ(t:Nat):List Nat->Bool
 | []=>false
 | a::l=>match Nat.beq t a with
  | true=>true
  | false=>IZ t l
def IG{β:Type}(t:Nat):List (Nat×β)->Option β
 | []=>none
 | (a,y)::l=>match Nat.beq t a with
  | true=>some y
  | false=>IG t l
def zg:List Prop->Prop
 | []=>True
 | [p]=>p
 | p::q::l=>p/\zg (q::l)
theorem zg.c{p l}(h:zg (p::l)):p/\zg l:=by
 cases l with
 | nil=>exact⟨h,trivial⟩
 | cons q l=>exact h
structure Ac where
 ps:List Prop
 l:List EV
 r:List EV
def Ac.Ok(a:Ac):= zg a.ps/\a.l=a.r
def Ac.p(a:Ac)(p:Prop):Ac:=⟨p::a.ps,a.l,a.r⟩
def Ac.q(a:Ac)(x y:EV):Ac:=⟨a.ps,x::a.l,y::a.r⟩
theorem Ac.Ok.p{a:Ac}{p}(h:(a.p p).Ok):p/\a.Ok:=⟨h.1.c.1,h.1.c.2,h.2⟩
theorem Ac.Ok.q{a:Ac}{x y}(h:(a.q x y).Ok):x=y/\a.Ok:=by
 have h2:=h.2;simp only[Ac.q,List.cons.injEq]at h2;exact⟨h2.1,h.1,h2.2⟩
theorem Ac.Ok.b{a:Ac}{x y}(h:(a.q (.d (.ex (.bool x))) (.d (.ex (.bool y)))).Ok):x=y/\a.Ok:=by
 have:=h.q;simpa using this
def Al{α:Type}(p:α->Prop):List α->Prop
 | []=>True
 | a::l=>p a/\Al p l
def tz{p t}:∀{l},Al p l->IZ t l=true->p t
 | [],_,h=>by cases h
 | a::l,⟨h1,h2⟩,h=>by
  unfold IZ at h;split at h
  .rename_i H;have:=zai H;subst this;exact h1
  .exact tz h2 h
def e8{β p t y}:∀{l:LQ (Nat×β)},Al p l->IG t l=some y->p (t,y)
 | [],_,h=>by cases h
 | (a,z)::l,⟨h1,h2⟩,h=>by
  unfold IG at h;split at h
  .rename_i H;have:=zai H;subst this;cases h;exact h1
  .exact e8 h2 h
def jL{α β:Type _}:List α->(List α->β)->β
 | [],k=>k []
 | a::l,k=>jL l λl'=>k (a::l')
def lP{α β}:∀l (k:LQ α->β),jL l k=k l
 | [],_=>rfl
 | a::l,k=>lP l λl'=>k (a::l')
def K2{β:Type _}(env:Env)(d:Option Tmp)(x:EV)(k:Env->β):= match d with
 | some d=>k ((d,x)::env)
 | none=>k env
def vY{β} env d x(k:Env->β):K2 env d x k=k (env.put d x):=by cases d<;>rfl
structure FT where
 one:List Nat
 agg:List (Nat×Nat)
 sz:List (Nat×Nat)
 fo:List (Nat×List (Nat×Nat))
 zr:List (Nat×List D)
 sl:List (Nat×Nat×Nat)
 str:List Nat
 en:List Nat
 pl:List (Nat×List (Nat×Nat))
structure I0(P:uG)(t e sz:Nat):Prop where
 ht:P.underlying t=some (.slice e)
 hi:∃inf z,P.info? e=some inf/\inf.zero=some z/\inf.size=sz/\z.cells.size=sz/\inf.bytes<=100000
def I0.of{P}{t e sz b:Nat}{z}(ht:P.underlying t=some (.slice e))(h:∃i,P.info? e=some i/\i.zero=some z/\i.size=sz/\i.bytes=b)(H:z.cells.size=sz)(a:Nat.ble b 100000=true):I0 P t e sz:=
 let⟨i,h1,h2,h3,h4⟩:=h
 ⟨ht,i,z,h1,h2,h3,H,by rw[h4];exact zae a⟩
def JJ{x ds}(h:ek (.d x)=some (ds.map EV.d)):cellsD (.d x)=some ds:=by
 have inj:∀{a b:LQ D},a.map EV.d=b.map EV.d->a=b:=λh=>(List.map_inj_right (λ_ _ h=>EV.d.inj h)).1 h
 cases x with
 | ex v =>
  simp only[ek,cellsD]at h ⊢;split at h
  .rename_i H;rw[zab H];exact zaq some (inj (a:=[.ex v]) (Option.some.inj h))
  .cases h
 | agg cs=>exact zaq some (inj (Option.some.inj h))
 | sl sz rows=>exact zaq some (inj (a:=[.sl sz rows]) (Option.some.inj h))
 | ro cs=>exact zaq some (inj (a:=[.ro cs]) (Option.some.inj h))
 | e0 sz=>exact zaq some (inj (a:=[.e0 sz]) (Option.some.inj h))
 | dp cs=>cases h
 | any=>cases h
abbrev zh(P:uG)(t:Nat)(z:uB)(n m:Nat):= ∃i,P.info? t=some i/\i.zero=some z/\i.size=n/\i.bytes=m
def yL{P t n m z}(h:zh P t z n m):(P.info? t).bind (·.zero)=some z:=by
 obtain⟨i,h1,h2,_⟩:=h;rw[h1];exact h2
def FT.Ok(P:uG)(T:FT):=
 Al (λt=>(P.underlying t).map qH=some true) T.one/\Al (λx=>(P.underlying x.1).map qH=some false/\(P.info? x.1).map (·.size)=some x.2) T.agg/\Al (λx=>(P.info? x.1).map (·.size)=some x.2) T.sz /\
 Al (λx=>Al (λy=>mI P x.1 y.1=some y.2) x.2) T.fo/\Al (λx=>∃z,(P.info? x.1).bind (·.zero)=some z/\ek (.d (cv z))=some (x.2.map EV.d)) T.zr /\
 Al (λx=>I0 P x.1 x.2.1 x.2.2) T.sl/\Al (λt=>P.underlying t=some .string) T.str/\Al (Enters P) T.en/\Al (λx=>sn P x.1=some x.2) T.pl
def dOf:Option D->Option EV
 | some x=>some (.d x)
 | none=>none
def isU8:IntKind->Bool
 | .u8=>true
 | _=>false
def intB(op:BinOp)(a b:Int):= match op with
 | .lss=>some (decide (a<b))
 | .leq=>some (decide (a<=b))
 | .gtr=>some (decide (a > b))
 | .geq=>some (decide (a>=b))
 | .eql=>some (a==b)
 | .neq=>some (a != b)
 | _=>none
def strB(op:BinOp)(a b:List uA):= match op with
 | .eql=>some (a==b)
 | .neq=>some (a != b)
 | _=>none
def exB:Option Bool->Option D
 | some b=>some (.ex (.bool b))
 | none=>none
def binE(op:BinOp)(x y:D):= match x with
 | .ex (.int k a)=>match isU8 k with
  | true=>none
  | false=>match y with
   | .ex (.int k' b)=>match decide (k=k')with
    | true=>exB (intB op a b)
    | false=>none
   | _=>none
 | .ex (.string ⟨⟨a⟩⟩)=>match y with
  | .ex (.string ⟨⟨b⟩⟩)=>exB (strB op a b)
  | _=>none
 | _=>none
def loadE(n:Nat)(cs:List EV)(off:Nat):Option EV:=match Nat.ble (off+n) cs.length with
 | true=>match Uj ((cs.drop off).take n)with
  | some ds=>some (.d (.agg ds))
  | none=>none
 | false=>none
def loadR(n:Nat)(cs:List D):Option EV:=match Nat.beq cs.length n with
 | true=>some (.d (.agg cs))
 | false=>match Nat.ble n cs.length with
  | true=>some (.d (.agg (cs.take n)))
  | false=>none
def rowOf(st:St)(o:Nat):Option (uE×List EV):=match st.aB[o]? with
 | some (.row ty cs)=>some (ty,cs)
 | _=>none
def qv(T:FT)(env:Env)(st:St):Op->Option EV
 | .move x=>bp env x
 | .assign x=>bp env x
 | .nilCheck x=>match bp env x with
  | some (.ref o f)=>some (.ref o f)
  | _=>none
 | .extract x i=>match bp env x with
  | some (.d (.dp cs))=>dOf cs[i]?
  | some (.dp cs)=>cs[i]?
  | _=>none
 | .binOp op t x y t2=>match bp env x with
  | some (.d a)=>match bp env y with
   | some (.d b)=>dOf (binE op a b)
   | _=>none
  | _=>none
 | .unOp .not t x=>match bp env x with
  | some (.d (.ex (.bool a)))=>some (.d (.ex (.bool !a)))
  | _=>none
 | .call ⟨.builtin .len,⟨[x]⟩,⟨[t]⟩⟩=>match IZ t T.str with
  | true=>match bp env x with
   | some (.d (.ex (.string ⟨⟨a⟩⟩)))=>some (.d (.ex (.int .i64 a.length)))
   | _=>none
  | false=>none
 | .build t ⟨l⟩=>match IG t T.pl with
  | some ps=>match IG t T.zr with
   | some z=>match Bv (λi=>ps[i]?) env z l with
    | some r=>jL r λr=>some (.d (.agg r))
    | none=>none
   | none=>none
  | none=>none
 | .fieldAddr s x f=>match IG s T.fo with
  | some h=>match IG f h with
   | some off=>match bp env x with
    | some (.ref o H)=>some (.ref o (H+off))
    | some (.d (.ro cs))=>some (.d (.ro (cs.drop off)))
    | some (.vp t k i o)=>some (.vp t k i (o+off))
    | _=>none
   | none=>none
  | none=>none
 | .load t x=>match bp env x with
  | some (.ref o off)=>match rowOf st o with
   | some (_,cs)=>match IZ t T.one with
    | true=>cs[off]?
    | false=>match IG t T.agg with
     | some n=>loadE n cs off
     | none=>none
   | none=>none
  | some (.d (.ro cs))=>match IZ t T.one with
   | true=>match cs with
    | c::_=>some (.d c)
    | []=>none
   | false=>match IG t T.agg with
    | some n=>loadR n cs
    | none=>none
  | _=>none
 | _=>none
def pk(env:Env):Op->Option (EV×Bool×Bool)
 | .pick x y z=>match bp env x with
  | some (.d (.ex (.bool a)))=>match bp env y with
   | some (.gd c (.d (.ex (.bool v))))=>match bp env z with
    | some (.d (.ex (.bool false)))=>some (.d (.ex (.bool (a && v))),c,a)
    | _=>none
   | some (.d (.ex (.bool true)))=>match bp env z with
    | some (.gd c (.d (.ex (.bool v))))=>some (.d (.ex (.bool (a || v))),c,!a)
    | _=>none
   | _=>none
  | _=>none
 | _=>none
def GG{st o ty cs}(h:rowOf st o=some (ty,cs)):st.aB[o]?=some (.row ty cs):=by
 unfold rowOf at h;split at h<;>cases h
 assumption
section q
variable {P:uG}{T:FT}{env:Env}{st:St}{d:Option Tmp}{ty:uE}{pos:String}{after:uD Edge}{gd:Option (Nat×Bool)}
def binE_q{op a b r x y t t2}(hx:bp env x=some (.d a))(hy:bp env y=some (.d b))(h:binE op a b=some r):aG P env st ⟨d,.binOp op t x y t2,ty,pos,after,gd⟩ (.d r):=by
 unfold binE at h;split at h
 .split at h
  .cases h
  .split at h
   .split at h
    .rename_i hk;have hk:=zbk hk;subst hk;unfold intB exB at h;cases op<;>simp at h<;>subst h
     .exact q_eql hx hy
     .exact q_neq hx hy
     .exact q_lss hx hy
     .exact q_leq hx hy
     .exact q_gtr hx hy
     .exact q_geq hx hy
    .cases h
   .cases h
 .split at h
  .unfold strB exB at h;cases op<;>simp at h<;>subst h
   .exact q_seql hx hy
   .exact q_sneq hx hy
  .cases h
 .cases h
def Nx(hT:T.Ok P){op x}(h:qv T env st op=some x):aG P env st ⟨d,op,ty,pos,after,gd⟩ x:=by
  obtain⟨h1,h2,_,h4,H,_,a,_,b⟩:=hT;unfold qv dOf loadE loadR at h
  repeat' split at h
  all_goals try rw[lP]at h
  all_goals first
    | (cases h;done)
    | exact rX h
    | exact F6 h
    | (refine PK ?_ h;assumption)
    | exact jH (tz h1 ‹_›) ‹_› (GG ‹_›) h
    | cases h
  all_goals first
    | exact mN ‹_›
    | exact yI ‹_› ‹_›
    | exact binE_q ‹_› ‹_› ‹_›
    | exact q_not ‹_›
    | exact q_lenS (tz a ‹_›) ‹_›
    | (obtain⟨z,k2,k3⟩:=e8 H ‹_›
       obtain⟨inf,k4,k5⟩:=Option.bind_eq_some_iff.1 k2;exact sr (e8 b ‹_›) k4 k5 (JJ k3) ‹_›)
    | exact bn (e8 (e8 h4 ‹_›) ‹_›) ‹_›
    | exact Uk (e8 (e8 h4 ‹_›) ‹_›) ‹_›
    | exact UA (e8 (e8 h4 ‹_›) ‹_›) ‹_›
    | exact PJ (tz h1 ‹_›) ‹_›
    | exact Up (e8 h2 ‹_›).1 (e8 h2 ‹_›).2 ‹_› ‹_›
    | exact RR (e8 h2 ‹_›).1 (e8 h2 ‹_›).2 (zae ‹_›) ‹_›
    | exact eJ (e8 h2 ‹_›).1 (e8 h2 ‹_›).2 ‹_› (GG ‹_›) (zae ‹_›) ‹_›
def Xa{op x p q}(h:pk env op=some (x,p,q))(b:p=q):aG P env st ⟨d,op,ty,pos,after,gd⟩ x:=by
 unfold pk at h;split at h
 .split at h
  .rename_i a hx;split at h
   .rename_i c v hy;split at h
    .rename_i H;simp only[Option.some.injEq,Prod.mk.injEq]at h;obtain⟨rfl,rfl,rfl⟩:=h;subst b;exact dV hx hy H
    .cases h
   .rename_i hy;split at h
    .rename_i c v H;simp only[Option.some.injEq,Prod.mk.injEq]at h;obtain⟨rfl,rfl,rfl⟩:=h;subst b;exact Jy hx hy H
    .cases h
   .cases h
  .cases h
 .cases h
end q
structure RH(P:uG)(T:FT)(g:Prop) where
 c:Env->St->Oper->Option (EV×EV)
 y:EV
 ok:g->T.Ok P->∀{e:Env} {st:St} {o:Oper} {x:EV},c e st o=some (x,y)->zd P e st o x
structure VH(P:uG)(T:FT) where
 c:Env->St->Oper->Option (EV×Nat×ju×EV)
 y:EV
 ok:T.Ok P->∀{base:Nat} {e:Env} {st:St} {o:Oper} {x:EV} {tk:Nat} {tl:ju},c e st o=some (x,tk,tl,y)->uL P base e st o x (st.aQ tk tl)
inductive Hint (P:uG) (T:FT) where
 | q (r:RH P T True)
 | j (b:Bool) (r:RH P T (b=true))
 | e (r:VH P T)
 | g (x:EV)
 | v (x:EV) (st:St)
 | u (st:St)
 | t (x:EV) (tk:Nat) (tl:ju)
 | n (x:EV) (tl:ju)
 | r (n:Nat)
 | p (n:Nat)
  | V (x:EV) (F:St->St)
 | U (F:St->St)
  | B (x:EV)
  | f (k:Nat) (x:EV)
 | w (k:Nat) (F:St->St)
section hs
variable {P:uG}{T:FT}
def forced(n:Nat)(o:Op):List (Hint P T)->Option (EV×List (Hint P T))
 | .f k x::hs=>match Nat.beq k n with
  | true=>some (x,hs)
  | false=>none
 | .B x::hs=>match o with
  | .build _ _=>some (x,hs)
  | _=>none
 | _=>none
def forcedU(n:Nat):List (Hint P T)->Option ((St->St)×List (Hint P T))
 | .w k s::hs=>match Nat.beq k n with
  | true=>some (s,hs)
  | false=>none
 | _=>none
end hs
def DC{β}:St->(St->β)->β
 | ⟨os,ts⟩,k=>jL os λos=>jL ts λts=>k ⟨os,ts⟩
def DD{β} s(k:St->β):DC s k=k s:=by
 cases s;simp only[DC,lP]
inductive Cf where
 | run (k:List Item)
 | ops (l rest:List Oper) (k:List Item)
 | draw (l:List Oper) (p:Nat) (os:List Oper) (k:List Item)
@[reducible] def UH(P:uG)(f:Ctx)(N:Nat)(S:Start)(Q:EV->St->Prop):Cf->Env->St->Prop
 | .run k=>aE P f N S Q k
 | .ops l r k=>bO P f N S Q l r k
 | .draw l p os k=>pw P f N S Q l p os k
structure Out where
 cf:Cf
 env:Env
 st:St
 ps:Ac
def gdE{β:Type _}(b:Bool)(env:Env):List Tmp->Ac->(Env->Ac->β)->β
 | [],ps,k=>k [] ps
 | t::ts,ps,k=>match lookup t env with
  | some (.gd c y)=>gdE b env ts (ps.q (.d (.ex (.bool c))) (.d (.ex (.bool b)))) λe ps=>k ((t,y)::e) ps
  | some x=>gdE b env ts ps λe ps=>k ((t,x)::e) ps
  | none=>gdE b env ts ps k
def BQ{β b env}:∀ts ps (k:Env->Ac->β),∃e F,gdE b env ts ps k=k e F/\(F.Ok->ps.Ok/\Bp b env e)
 | [],ps,k=>⟨[],ps,rfl,λh=>⟨h,trivial⟩⟩
 | t::ts,ps,k=>by
  unfold gdE;split
  .rename_i c y hl;obtain⟨e,F,h1,h2⟩:=BQ (b:=b) (env:=env) ts (ps.q (.d (.ex (.bool c))) (.d (.ex (.bool b)))) λe ps=>k ((t,y)::e) ps
   refine⟨_,_,h1,λh=>?_⟩;obtain⟨H,a⟩:=h2 h;obtain⟨h3,h4⟩:=H.b;exact⟨h4,.inr (.inl (by rw[hl,h3])),a⟩
  .rename_i x f hl;obtain⟨e,F,h1,h2⟩:=BQ (b:=b) (env:=env) ts ps λe ps=>k ((t,x)::e) ps
   exact⟨_,_,h1,λh=>⟨(h2 h).1,.inl hl,(h2 h).2⟩⟩
  .obtain⟨e,F,h1,h2⟩:=BQ (b:=b) (env:=env) ts ps k;exact⟨e,F,h1,h2⟩
def gdP(b:Option Bool)(p:Prop):= match b with
 | none=>p
 | some c=>c=true->p
def gdP_of{b p}(h:gdP b p)(H:∀c,b=some c->c=true):p:=by
 cases b with
 | none=>exact h
 | some c=>exact h (H c rfl)
section steps
variable {P:uG}{T:FT}
def Ny(n:Nat)(st:St)(e:Env)(o:Oper)(b:Option Bool)(hs:List (Hint P T))(ps:Ac)(F:Option Out)(K:EV->List (Hint P T)->Ac->Option Out):Option Out:=
 match forced n o.op hs with
 | some (x,hs)=>K x hs (ps.p (gdP b (zd P e st o x)))
 | none=>match qv T e st o.op with
  | some x=>K x hs ps
  | none=>match pk e o.op with
   | some (x,p,q)=>K x hs (ps.q (.d (.ex (.bool p))) (.d (.ex (.bool q))))
   | none=>match hs with
    | .g x::hs=>K x hs (ps.p (gdP b (zd P e st o x)))
    | .q r::hs=>match r.c e st o with
     | some (x,z)=>K x hs (ps.q z r.y)
     | none=>F
    | .j c r::hs=>match b with
     | some b=>match r.c e st o with
      | some (x,z)=>K x hs ((ps.q (.d (.ex (.bool b))) (.d (.ex (.bool c)))).q z r.y)
      | none=>F
     | none=>F
    | _=>F
def GH(hT:T.Ok P){n st e o b hs ps F}{K:EV->LQ (Hint P T)->Ac->LX Out}{out}(h:Ny n st e o b hs ps F K=out):
  out=F∨∃x v a,out=K x v a/\(a.Ok->ps.Ok/\((∀c,b=some c->c=true)->zd P e st o x)):=by
 obtain⟨dst,op,ty,pos,after,guard⟩:=o;unfold Ny at h
 dsimp only at h
 repeat' split at h
 all_goals first
  | exact .inl h.symm
  | exact .inr ⟨_,_,_,h.symm,λH=>⟨H.p.2,gdP_of H.p.1⟩⟩
  | exact .inr ⟨_,_,_,h.symm,λH=>⟨H,λ_=>(Nx hT ‹_›).g⟩⟩
  | exact .inr ⟨_,_,_,h.symm,λH=>⟨H.b.2,λ_=>(Xa ‹_› H.b.1).g⟩⟩
  | exact .inr ⟨_,_,_,h.symm,λH=>⟨H.q.2,λ_=>RH.ok (by assumption) trivial hT (Eq.trans ‹_› (by rw[H.q.1]))⟩⟩
  | exact .inr ⟨_,_,_,h.symm,λH=>⟨H.q.2.b.2,λd=>RH.ok (by assumption) (H.q.2.b.1▸d _ rfl) hT (Eq.trans ‹_› (by rw[H.q.1]))⟩⟩
def Sg(n:Nat)(l:List Oper)(e:Env)(st:St)(o:Oper)(hs:List (Hint P T))(ps:Ac)(F:Option Out)(K:EV->List (Hint P T)->Ac->Option Out):=
 match o.guard with
 | none=>Ny n st e o none hs ps F K
 | some (j,want)=>match l[j]?.bind (·.dst)with
  | some t=>match lookup t e with
   | some c=>match ED c want with
    | some b=>gdE b e (Gg o.op) ps λe ps=>Ny n st e o (some b) hs ps F λx hs ps=>K (.gd b x) hs ps
    | none=>F
   | none=>F
  | none=>F
def GJ(hT:T.Ok P){n l e st o hs ps F}{K:EV->LQ (Hint P T)->Ac->LX Out}{out}(h:Sg n l e st o hs ps F K=out):
  out=F∨∃x v a,out=K x v a/\(a.Ok->ps.Ok/\uR P l e st o x):=by
 obtain⟨dst,op,ty,pos,after,guard⟩:=o;unfold Sg at h
 dsimp only at h
 split at h
 .rcases GH hT h with h|⟨x,v,a,h,k⟩
  .exact .inl h
  .exact .inr ⟨_,_,_,h,λH=>⟨(k H).1,.inl ⟨rfl,(k H).2 (by simp)⟩⟩⟩
 .rename_i j w;split at h
  .rename_i t ht;split at h
   .rename_i c f;split at h
    .rename_i b d;obtain⟨e',p,h1,h2⟩:=BQ (b:=b) (env:=e) (Gg op) ps λe ps=>Ny n st e ⟨dst,op,ty,pos,after,some (j,w)⟩ (some b) hs ps F λx hs ps=>K (.gd b x) hs ps
     rw[h1]at h;rcases GH hT h with h|⟨x,v,a,h,k⟩
     .exact .inl h
     .exact .inr ⟨_,_,_,h,λH=>⟨(h2 (k H).1).1,.inr ⟨j,w,t,c,b,x,e',rfl,ht,f,d,rfl,(h2 (k H).1).2,λd=>(k H).2 (by rintro _ ⟨⟩;exact d)⟩⟩⟩
    .exact .inl h.symm
   .exact .inl h.symm
  .exact .inl h.symm
def Xb(base:Nat)(e:Env)(st:St)(o:Oper)(hs:List (Hint P T))(ps:Ac)(K:EV->St->List (Hint P T)->Ac->Option Out):Option Out:=
  match o.guard with
  | some _=>none
  | none=>match st with
   | ⟨ob,tl⟩=>match hs with
    | .r n::hs=>match Nat.beq n ob.length with
      | false=>none
      | true=>match o.op with
        | .box t x=>match bp e x with
          | some y=>match ek y with
            | some cs=>jL cs λcs=>jL (ob++[.row t cs]) λos=>K (.ref n 0) ⟨os,tl⟩ hs ps
            | none=>none
          | none=>none
        | .alloc t=>match IG t T.zr with
          | some h=>jL (h.map EV.d) λcs=>jL (ob++[.row t cs]) λos=>K (.ref n 0) ⟨os,tl⟩ hs ps
          | none=>none
        | _=>none
    | .e r::hs=>match r.c e st o with
      | some (x,tk,y,z)=>jL (tl.set tk y) λts=>K x ⟨ob,ts⟩ hs (ps.q z r.y)
      | none=>none
    | .v x st'::hs=>K x st' hs (ps.p (uL P base e st o x st'))
    | .u st'::hs=>K (.d .any) st' hs (ps.p (ID P base e st o st'))
    | .V x G::hs=>DC (G st) λst'=>K x st' hs (ps.p (uL P base e st o x (G st)))
    | .U G::hs=>DC (G st) λst'=>K (.d .any) st' hs (ps.p (ID P base e st o (G st)))
    | .t x tk y::hs=>jL (tl.set tk y) λts=>K x ⟨ob,ts⟩ hs (ps.p (uL P base e st o x (st.aQ tk y)))
    | .n x y::hs=>jL (tl++[y]) λts=>K x ⟨ob,ts⟩ hs (ps.p (uL P base e st o x (st.tok y)))
    | _=>none
def Xc(base:Nat)(n:Nat)(e:Env)(st:St)(o:Oper)(hs:List (Hint P T))(ps:Ac)(F:Option Out)(K:St->List (Hint P T)->Ac->Option Out):=
  match o.guard with
  | some _=>F
  | none=>match forcedU n hs with
   | some (G,hs)=>DC (G st) λst'=>K st' hs (ps.p (ID P base e st o (G st)))
   | none=>match o.op with
    | .store t x y=>match bp e x with
      | some (.ref ob off)=>match rowOf st ob with
        | some (ty,cs)=>match bp e y with
          | some y=>match ek y with
            | some new=>match IG t T.sz with
              | some n=>match Nat.beq n new.length with
                | true=>match Nat.ble (off+new.length) cs.length with
                  | true=>match st with
                    | ⟨os,tl⟩=>jL (putCells cs off new) λcs=>jL (os.set ob (.row ty cs)) λos=>K ⟨os,tl⟩ hs ps
                  | false=>F
                | false=>F
              | none=>F
            | none=>F
          | none=>F
        | none=>F
      | _=>F
    | _=>F
end steps
section e
variable {P:uG}{base:Nat}{T:FT}(hT:T.Ok P){e:Env}{st:St}{o:Oper}{hs:List (Hint P T)}{ps:Ac}{out:Out}
include hT
theorem Qm{K}(h:Xb base e st o hs ps K=some out):
    o.guard=none/\∃x st' v F,K x st' v F=some out/\(F.Ok->ps.Ok/\(uL P base e st o x st'∨x=.d .any/\ID P base e st o st')):=by
  obtain⟨dst,op,ty,pos,after,guard⟩:=o;unfold Xb at h
  dsimp only at h
  simp only[lP,DD]at h;split at h
  . cases h
  . refine⟨rfl,?_⟩
    repeat' split at h
    all_goals first
      | (cases h;done)
      | exact⟨_,_,_,_,h,λH=>⟨H.p.2,.inl H.p.1⟩⟩
      | exact⟨_,_,_,_,h,λH=>⟨H.p.2,.inr ⟨rfl,H.p.1⟩⟩⟩
      | exact⟨_,_,_,_,h,λH=>⟨H.q.2,.inl (VH.ok (by assumption) hT (Eq.trans ‹_› (by rw[H.q.1])))⟩⟩
      | (have hn:=zai ‹_›
         exact⟨_,_,_,_,h,λH=>⟨H,.inl (hn▸v_box ‹_› ‹_›)⟩⟩)
      | (have hn:=zai ‹_›
         obtain⟨z,J,a⟩:=e8 hT.2.2.2.2.1 ‹_›;exact⟨_,_,_,_,h,λH=>⟨H,.inl (hn▸nf J a)⟩⟩)
theorem Qn{n F r K}(h:Xc base n e st o hs ps F K=r):r=F∨o.guard=none/\∃st' v a,r=K st' v a/\(a.Ok->ps.Ok/\ID P base e st o st'):=by
  obtain⟨dst,op,ty,pos,after,guard⟩:=o;unfold Xc at h
  dsimp only at h
  simp only[lP,DD]at h
  repeat' split at h
  all_goals first
    | exact .inl h.symm
    | exact .inr ⟨rfl,_,_,_,h.symm,λH=>⟨H.p.2,H.p.1⟩⟩
    | (have hn:=zai ‹Nat.beq _ _=true›
       have b:=e8 hT.2.2.1 ‹_›;rw[hn]at b;exact .inr ⟨rfl,_,_,_,h.symm,λH=>⟨H,tj ‹_› ‹_› (GG ‹_›) ‹_› (zae ‹_›) b⟩⟩)
end e
def ctl{P T}(hs:List (Hint P T))(ps:Ac):List Item->(Cf->List (Hint P T)->Ac->Option Out)->Option Out
 | .code (.seq x y)::k,K=>K (.run (.code x::.code y::k)) hs ps
 | .code .skip::k,K=>K (.run k) hs ps
 | .inBlock id::k,K=>K (.run k) hs ps
 | .code (.block id c)::k,K=>K (.run (.code c::.inBlock id::k)) hs ps
 | .code (.exit id)::k,K=>match exitTo id k with
  | some k'=>K (.run k') hs ps
  | none=>none
 | .code (.region id ⟨l⟩ false)::k,K=>K (.ops l l k) hs ps
 | .code (.region id ⟨l⟩ true)::k,K=>match hs with
  | .p p::hs=>jL (l.take p) λos=>K (.draw l p os k) hs (ps.p (dB l p=true))
  | _=>none
 | _,_=>none
def okO(N:Nat)(o:Oper):= match o.dst with
 | some d=>Nat.ble (d+1) N
 | none=>match o.guard with
  | none=>true
  | some _=>false
def Si{N o}(h:okO N o=true):eE N o.dst=true/\(o.guard≠none->o.dst≠none):=by
 unfold okO at h;split at h
 .rename_i d H;rw[H];exact⟨h,λ_=>by simp⟩
 .rename_i H;rw[H];split at h
  .rename_i a;exact⟨rfl,λh=>absurd a h⟩
  .cases h
def go P(base:Nat) T(N:Nat):Nat->Cf->Env->St->List (Hint P T)->Ac->Option Out
 | 0,cf,env,st,hs,ps=>match hs with
  | []=>some ⟨cf,env,st,ps⟩
  | _=>none
 | n+1,cf,env,st,hs,ps=>match cf with
  | .run k=>ctl hs ps k λcf hs ps=>go P base T N n cf env st hs ps
  | .ops l rest k=>match rest with
   | []=>go P base T N n (.run k) env st hs ps
   | o::rest=>match okO N o with
    | true=>Xc base (n+1) env st o hs ps
     (Sg (n+1) l env st o hs ps
      (Xb base env st o hs ps λx st hs ps=>K2 env o.dst x λenv=>go P base T N n (.ops l rest k) env st hs ps)
      λx hs ps=>K2 env o.dst x λenv=>go P base T N n (.ops l rest k) env st hs ps)
     λst hs ps=>K2 env o.dst (.d .any) λenv=>go P base T N n (.ops l rest k) env st hs ps
    | false=>none
  | .draw l p os k=>match os with
   | []=>jL (l.drop p) λr=>go P base T N n (.ops l r k) env st hs ps
   | o::os=>match okO N o with
    | true=>Sg (n+1) l (jJ l o env) st o hs ps none λx hs ps=>K2 env o.dst x λenv=>go P base T N n (.draw l p os k) env st hs ps
    | false=>none
section sound
variable {P:uG}{f:Ctx}{N:Nat}{S:Start}{Q:EV->St->Prop}{T:FT}
def bO.any{ops rest k env st o x}(h:uR P ops env st o x)(a:eE N o.dst=true)(hs:o.guard≠none->o.dst≠none)(hk:bO P f N S Q ops rest k (env.put o.dst x) st):
  bO P f N S Q ops (o::rest) k env st:=by
 obtain⟨dst,op,ty,pos,after,guard⟩:=o;rcases h with⟨H,h⟩|⟨j,want,t,c,b,y,env',H,e,hl,i,rfl,l,h⟩
 .have H:guard=none:=H;subst H;exact .g h a hk
 .have H:guard=_:=H;subst H;cases dst with
  | none=>exact absurd rfl (hs (by simp))
  | some d=>exact .jI e hl i l a h hk
def pw.any{l os p k env st o x}(h:uR P l (jJ l o env) st o x)(H:eE N o.dst=true)(hk:pw P f N S Q l p os k (env.put o.dst x) st):
  pw P f N S Q l p (o::os) k env st:=by
 obtain⟨xs,h1,h2⟩:=hk;exact⟨x::xs,⟨H,h,h1⟩,h2⟩
def go_sound(hT:T.Ok P)(hm:P.follows .mixedOrders=true):∀n cf env st hs ps out,go P S.base T N n cf env st hs ps=some out->out.ps.Ok ->
  ps.Ok/\(UH P f N S Q out.cf out.env out.st->UH P f N S Q cf env st)
 | 0,cf,env,st,hs,ps,out,h,H=>by
  unfold go at h;split at h
  .cases h;exact⟨H,λh=>h⟩
  .cases h
 | n+1,.run k,env,st,hs,ps,out,h,H=>by
  unfold go at h
  dsimp only at h
  have i:=λcf hs ps=>go_sound hT hm n cf env st hs ps out
  unfold ctl at h;split at h
  .obtain⟨h1,h2⟩:=i _ _ _ h H;exact⟨h1,λh=>.seq (h2 h)⟩
  .obtain⟨h1,h2⟩:=i _ _ _ h H;exact⟨h1,λh=>.skip (h2 h)⟩
  .obtain⟨h1,h2⟩:=i _ _ _ h H;exact⟨h1,λh=>.inBlock (h2 h)⟩
  .obtain⟨h1,h2⟩:=i _ _ _ h H;exact⟨h1,λh=>.block (h2 h)⟩
  .split at h
   .rename_i hk;obtain⟨h1,h2⟩:=i _ _ _ h H;exact⟨h1,λh=>.exit hk (h2 h)⟩
   .cases h
  .obtain⟨h1,h2⟩:=i _ _ _ h H;exact⟨h1,λh=>.region (h2 h)⟩
  .split at h
   .rw[lP]at h;obtain⟨h1,h2⟩:=i _ _ _ h H;exact⟨h1.p.2,λh=>.drawn _ hm h1.p.1 (h2 h)⟩
   .cases h
  .cases h
 | n+1,.ops l [] k,env,st,hs,ps,out,h,H=>by
  unfold go at h
  dsimp only at h
  obtain⟨h1,h2⟩:=go_sound hT hm n _ _ _ _ _ out h H;exact⟨h1,λh=>.nil (h2 h)⟩
 | n+1,.ops l (o::rest) k,env,st,hs,ps,out,h,H=>by
  unfold go at h
  dsimp only at h
  split at h
  .rename_i b;obtain⟨I,V⟩:=Si b;rcases Qn (base:=S.base) hT h with h|⟨a,st',v,F,h,hu⟩
   .rcases GJ hT h.symm with h|⟨x,v,F,h,ha⟩
    .obtain⟨a,x,st',v,F,h,ha⟩:=Qm hT h.symm;rw[vY]at h;obtain⟨h1,h2⟩:=go_sound hT hm n _ _ _ _ _ out h H;obtain⟨h3,h4⟩:=ha h1;refine⟨h3,λhk=>?_⟩;rcases h4 with h4|⟨rfl,h4⟩
     .exact .op a I h4 (h2 hk)
     .exact .opU a I h4 (h2 hk)
    .rw[vY]at h;obtain⟨h1,h2⟩:=go_sound hT hm n _ _ _ _ _ out h.symm H;obtain⟨h3,h4⟩:=ha h1;exact⟨h3,λh=>.any h4 I V (h2 h)⟩
   .rw[vY]at h;obtain⟨h1,h2⟩:=go_sound hT hm n _ _ _ _ _ out h.symm H;obtain⟨h3,h4⟩:=hu h1;exact⟨h3,λh=>.opU a I h4 (h2 h)⟩
  .cases h
 | n+1,.draw l p [] k,env,st,hs,ps,out,h,H=>by
  unfold go at h
  dsimp only at h
  rw[lP]at h;obtain⟨h1,h2⟩:=go_sound hT hm n _ _ _ _ _ out h H;exact⟨h1,λh=>.nil (h2 h)⟩
 | n+1,.draw l p (o::os) k,env,st,hs,ps,out,h,H=>by
  unfold go at h
  dsimp only at h
  split at h
  .rename_i b;obtain⟨I,V⟩:=Si b;rcases GJ hT h with h|⟨x,v,F,h,ha⟩
   .cases h
   .rw[vY]at h;obtain⟨h1,h2⟩:=go_sound hT hm n _ _ _ _ _ out h.symm H;obtain⟨h3,h4⟩:=ha h1;exact⟨h3,λh=>.any h4 I (h2 h)⟩
  .cases h
def o7(T:FT)(env:Env)(st:St):List ResultVar->Option (List EV)
 | []=>some []
 | .tmp t::l=>match lookup t env with
  | some x=>match o7 T env st l with
   | some r=>some (x::r)
   | none=>none
  | none=>none
 | .cell a ty::l=>match lookup a env with
  | some (.ref o off)=>match qv T env st (.load ty (.tmp a))with
   | some x=>match o7 T env st l with
    | some r=>some (x::r)
    | none=>none
   | none=>none
  | _=>none
def vZ(hT:T.Ok P){env st}:∀{l es},o7 T env st l=some es->Gs P env st l es
 | [],es,h=>by cases h;trivial
 | .tmp t::l,es,h=>by
  unfold o7 at h;split at h
  .rename_i x hx;split at h
   .rename_i r H;cases h;exact⟨hx,vZ hT H⟩
   .cases h
  .cases h
 | .cell a ty::l,es,h=>by
  unfold o7 at h;split at h
  .rename_i o off ha;split at h
   .rename_i x b;split at h
    .rename_i r H;cases h;exact⟨⟨⟨o,off,ha⟩,Nx hT b⟩,vZ hT H⟩
    .cases h
   .cases h
  .cases h
def aE.rc{f}(hT:T.Ok P){fn xs es k env st}(H:P.funcs[f]?=some fn)(a:fn.results=xs.toArray)(h:o7 T env st xs=some es)(b:Q (qt es) st):
  aE P (.of f) N S Q (.code .ret::k) env st:=.retN xs es H a (vZ hT h) b
def aE.ite{α:Type}{b d e a}{r:α}{c x y k env st}(H:@ite _ (b=true) d e a=some r)(g:bp env c=some (.d (.ex (.bool b))))
  (ht:e=some r->aE P f N S Q (.code x::k) env st) (i:a=some r->aE P f N S Q (.code y::k) env st):aE P f N S Q (.code (.cond c x y)::k) env st :=
 .cond g (λh=>ht (by rw[zab h]at H;exact H)) (λh=>i (by rw[zaa (by simp[h])]at H;exact H))
def DE(env:Env):List (Nat×EV)->Option Env
 | []=>some []
 | (i,_)::l=>match lookup i env with
  | some x=>match DE env l with
   | some r=>some ((i,x)::r)
   | none=>none
  | none=>none
def uV{env}:∀{l env'},DE env l=some env'->dG env env'
 | [],env',h=>by cases h;trivial
 | (i,y)::l,env',h=>by
  unfold DE at h;split at h
  .rename_i x hx;split at h
   .rename_i r H;cases h;exact .cons hx (.aW _) (uV H)
   .cases h
  .cases h
section back
variable {todo:List Item}{env env':Env}{st st' s0:St}
def aE.z(h:aE P f N S Q todo env' st')(hs:st=st')(H:DE env env'=some env'):aE P f N S Q todo env st:=hs▸.sub (uV H) h
theorem aE.t(n m)(h:aE P f N S Q todo env' st')(b:DE env env'=some env')(c:st.aB.take n=st'.aB)(ht:st.ag.take m=st'.ag)(hn:(Nat.ble n st.aB.length && Nat.ble m st.ag.length)=true)
  (z:(BA n m env' && st'.aB.all (gG n m))=true) (a:S.st=s0) (H:(Nat.ble s0.aB.length n && Nat.ble s0.ag.length m)=true):aE P f N S Q todo env st:=by
 simp only[zam]at hn H;exact .to n m (uV b) c ht hn.1 hn.2 z (by rw[a];exact zae H.1) (by rw[a];exact zae H.2) h
end back
end sound
theorem ID.e{P base env st st1 st2 o}(h:ID P base env st o st1)(he:st1=st2):ID P base env st o st2:=he▸h
theorem uL.e{P base env st st1 st2 o x}(h:uL P base env st o x st1)(he:st1=st2):uL P base env st o x st2:=he▸h
theorem QD.m{q r st x}(H:q x)(h:eB r (.d x)):QD q r st:=⟨x,h,H⟩
def eB.tupD{ds es}(h:es=ds.map EV.d):eB (.dp es) (.d (.dp ds)):=by
 subst h;refine .WN ?_
 induction ds with
 | nil=>trivial
 | cons d ds i=>exact⟨.aW _,i⟩
def strT:TypeDesc->Bool
 | .string=>true
 | _=>false
def strT_of{x}(h:x.map strT=some true):x=some .string:=by
 cases x with
 | none=>cases h
 | some x=>cases x<;>first|rfl|cases h
def entB(P:uG)(f:Nat):Bool:=match P.funcs[f]? with
 | some fn=>(fn.name == "runtime.NumGoroutine")==false && fn.body.isNone==false
 | none=>false
def EP{P f}(this:entB P f=true):Enters P f:=by
 unfold entB at this;split at this
 .rename_i fn h;simp only[zam,zes]at this;exact⟨fn,h,this.1,this.2⟩
 .cases this
def enters_of{P}{l:LQ Nat}(hl:l.all (entB P)=true){i f:Nat}(h:l[i]?=some f):Enters P f:=EP (zbf.1 hl f (zav h))
def ftB(P:uG)(T:FT):=
 T.one.all (λt=>decide ((P.underlying t).map qH=some true)) && T.agg.all (λx=>decide ((P.underlying x.1).map qH=some false) && decide ((P.info? x.1).map (·.size)=some x.2)) && T.sz.all (λx=>decide ((P.info? x.1).map (·.size)=some x.2)) &&
 T.fo.all (λx=>x.2.all λy=>decide (mI P x.1 y.1=some y.2)) && T.str.all (λt=>decide ((P.underlying t).map strT=some true)) && T.en.all (entB P) && T.pl.all λx=>decide (sn P x.1=some x.2)
def BR{α p}:∀{l:LQ α},(∀x,x∈l->p x)->Al p l
 | [],_=>trivial
 | a::l,h=>⟨h a (by simp),BR λx hx=>h x (by simp[hx])⟩
def FT.ok_of{P T}(h:ftB P T=true)(H:Al (λx=>∃z,(P.info? x.1).bind (·.zero)=some z/\ek (.d (cv z))=some (x.2.map EV.d)) T.zr)(hs:Al (λx=>I0 P x.1 x.2.1 x.2.2) T.sl): T.Ok P:=by
 simp only[ftB,zam,zbf,zcc]at h;exact⟨BR h.1.1.1.1.1.1,BR h.1.1.1.1.1.2,BR h.1.1.1.1.2,BR λx hx=>BR (h.1.1.1.2 x hx),H,hs,BR λx hx=>strT_of (h.1.1.2 x hx),BR λx hx=>EP (h.1.2 x hx),BR h.2⟩
section acc
variable {P:uG}{T:FT}(hT:T.Ok P)
include hT
theorem FT.Ok.II(s f){o}(h:(IG s T.fo).bind (IG f)=some o):mI P s f=some o:=by
 obtain⟨l,h1,h2⟩:=Option.bind_eq_some_iff.1 h;exact e8 (e8 hT.2.2.2.1 h1) h2
theorem FT.Ok.Qo t(h:IZ t T.one=true):(P.underlying t).map qH=some true:=tz hT.1 h
theorem FT.Ok.K3 t{n}(h:IG t T.agg=some n):(P.underlying t).map qH=some false:=(e8 hT.2.1 h).1
theorem FT.Ok.Wb t{n}(h:IG t T.sz=some n):(P.info? t).map (·.size)=some n:=e8 hT.2.2.1 h
theorem FT.Ok.plA t{l}(h:IG t T.pl=some l):sn P t=some l:=e8 hT.2.2.2.2.2.2.2.2 h
end acc
def Dc P(base:Nat) T(N n:Nat)(cf:Cf)(env:Env)(st:St)(hs:List (Hint P T)):= jL env λenv=>DC st λst=>go P base T N n cf env st hs ⟨[],[],[]⟩
def goF_eq{P base T N n cf env st hs}:Dc P base T N n cf env st hs=go P base T N n cf env st hs ⟨[],[],[]⟩:=by
 unfold Dc;simp only[lP,DD]
def oc{P f N S Q T}(hT:T.Ok P)(hm:P.follows .mixedOrders=true){n cf env st hs out}(h:Dc P S.base T N n cf env st hs=some out)(H:out.ps.Ok):
  UH P f N S Q out.cf out.env out.st->UH P f N S Q cf env st:=(go_sound hT hm n cf env st hs _ out (goF_eq▸h) H).2
section slt
variable {P:uG}{t e sz:Nat}(s:I0 P t e sz){base:Nat}{env:Env}{st:St}{d:Option Tmp}{ty:uE}{pos:String}{after:uD Edge}{gd:Option (Nat×Bool)}{x y:uH}{α:Type}{row:α->List D}{l l':List α}{ev w:EV}
include s
theorem I0.n(hx:bp env x=some ev)(hs:nE ev=some (sz,l.map row)):zd P env st ⟨d,.call ⟨.builtin .len,#[x],#[t]⟩,ty,pos,after,gd⟩ (.d (cI l.length)):=(q_lenL s.ht hx hs).g
theorem I0.ix[Inhabited α]{k i}(hx:bp env x=some ev)(hs:nE ev=some (sz,l.map row))(hy:bp env y=some (.d (.ex (.int k i))))(h:0<=i/\i<l.length):
  zd P env st ⟨d,.indexAddr t x y,ty,pos,after,gd⟩ (.d (.ro (row (nth l i.toNat)))):=by
 obtain⟨inf,z,h1,_,h3,_⟩:=s.hi;exact(P7 s.ht h1 h3 hx hs hy h).g
theorem I0.a{tk}(hx:bp env x=some (.dA sz (l.map row) tk))(h:st.ag[tk]?=some ⟨e,sz,l.length,none⟩)(hy:bp env y=some w)(hs:nE w=some (sz,l'.map row))(hn:l.length+l'.length<=1000000000):
  uL P base env st ⟨d,.call ⟨.builtin .append,#[x,y],#[t,t]⟩,ty,pos,after,gd⟩ (.dA sz ((l++l').map row) tk) (st.aQ tk ⟨e,sz,(l++l').length,none⟩):=by
 obtain⟨inf,z,h1,h2,h3,h4,H⟩:=s.hi;exact Ds s.ht h1 h2 h3 h4 H hx h hy hs hn
end slt
section ari
variable {P:uG}{env:Env}{st:St}{d:Option Tmp}{ty:uE}{pos:String}{after:uD Edge}{gd:Option (Nat×Bool)}{x y:uH}{t t2:uE}{a b:Int}
def g_addI(hx:bp env x=some (.d (cI a)))(hy:bp env y=some (.d (cI b)))(h:-9223372036854775808<=a+b/\a+b<=9223372036854775807):zd P env st ⟨d,.binOp .add t x y t2,ty,pos,after,gd⟩ (.d (cI (a+b))):=(sk hx hy h.1 h.2).g
def g_subI(hx:bp env x=some (.d (cI a)))(hy:bp env y=some (.d (cI b)))(h:-9223372036854775808<=a-b/\a-b<=9223372036854775807):zd P env st ⟨d,.binOp .sub t x y t2,ty,pos,after,gd⟩ (.d (cI (a-b))):=(q_subI hx hy h.1 h.2).g
def g_mulI(hx:bp env x=some (.d (cI a)))(hy:bp env y=some (.d (cI b)))(h:-9223372036854775808<=a*b/\a*b<=9223372036854775807):zd P env st ⟨d,.binOp .mul t x y t2,ty,pos,after,gd⟩ (.d (cI (a*b))):=(q_mulI hx hy h.1 h.2).g
end ari
inductive Pt where
 | c (i j:Nat) (x:EV)
 | o (i:Nat) (x:jE)
 | t (i:Nat) (x:ju)
 | O (x:jE)
 | T (x:ju)
def pS:List Pt->St->St
 | [],s=>s
 | .c i j x::l,⟨os,ts⟩=>pS l ⟨match os[i]? with
  | some (.row ty cs)=>os.set i (.row ty (cs.set j x))
  | _=>os,ts⟩
 | .o i x::l,⟨os,ts⟩=>pS l ⟨os.set i x,ts⟩
 | .t i x::l,⟨os,ts⟩=>pS l ⟨os,ts.set i x⟩
 | .O x::l,⟨os,ts⟩=>pS l ⟨os++[x],ts⟩
 | .T x::l,⟨os,ts⟩=>pS l ⟨os,ts++[x]⟩
class Rw (α:Type) where
 row:α->List D
section rh
variable {P:uG}{T:FT}{g:Prop}{α:Type}{row:α->List D}
def RH.ix[Inhabited α]{l:List α}{i:Int}(h:g->0<=i/\i<l.length):RH P T g where
 c e st o:=match o.op with
  | .indexAddr t x y=>match IG t T.sl with
   | some (_,sz)=>match bp e x with
    | some ev=>match nE ev with
     | some (F,rows)=>match Nat.beq sz F with
      | true=>match bp e y with
       | some (.d (.ex (.int _ a)))=>some (.d (.ro (row (nth l i.toNat))),.agg [.d (.sl 0 rows),.d (cI a)])
       | _=>none
      | false=>none
     | none=>none
    | none=>none
   | none=>none
  | _=>none
 y:=.agg [.d (.sl 0 (l.map row)),.d (cI i)]
 ok b hT e st o x H:=by
  obtain⟨_,_,_,_,_,_⟩:=o
  dsimp only at H
  repeat' split at H
  all_goals cases H
  cases zai (by assumption);have s:=e8 hT.2.2.2.2.2.1 (by assumption);apply s.ix (h:=h b)<;>assumption
def RH.n(l:List α):RH P T g where
 c e st o:=match o.op with
  | .call ⟨.builtin .len,⟨[x]⟩,⟨[t]⟩⟩=>match IG t T.sl with
   | some (_,sz)=>match bp e x with
    | some ev=>match nE ev with
     | some (F,rows)=>match Nat.beq sz F with
      | true=>some (.d (cI l.length),.d (.sl 0 rows))
      | false=>none
     | none=>none
    | none=>none
   | none=>none
  | _=>none
 y:=.d (.sl 0 (l.map row))
 ok H hT e st o x h:=by
  obtain⟨_,_,_,_,_,_⟩:=o
  dsimp only at h
  repeat' split at h
  all_goals cases h
  cases zai (by assumption);have s:=e8 hT.2.2.2.2.2.1 (by assumption);apply s.n<;>assumption
def RH.p{n}(h:g->cR n):RH P T g where
 c e st o:=match o.op with
  | .binOp op _ x y _=>match bp e x with
   | some (.d (.ex (.int .i64 a)))=>match bp e y with
    | some (.d (.ex (.int .i64 b)))=>match op with
     | .add=>some (.d (cI n),.d (cI (a+b)))
     | .sub=>some (.d (cI n),.d (cI (a-b)))
     | .mul=>some (.d (cI n),.d (cI (a*b)))
     | _=>none
    | _=>none
   | _=>none
  | _=>none
 y:=.d (cI n)
 ok f hT e st o x H:=by
  have h:=h f;obtain⟨_,_,_,_,_,_⟩:=o
  dsimp only at H
  repeat' split at H
  all_goals cases H
  .exact g_addI (by assumption) (by assumption) h
  .exact g_subI (by assumption) (by assumption) h
  .exact g_mulI (by assumption) (by assumption) h
def RH.k{f:Nat}{ds r}(h:g->aR P f ds (·=r)):RH P T g where
 c e st o:=match o.op with
  | .call ⟨.value (.func f),⟨l⟩,_⟩=>match IZ f T.en with
   | true=>match y0 e l with
    | some es=>match MN es with
     | some ds=>some (.d r,.agg [.ref f 0,.d (.agg ds)])
     | none=>none
    | none=>none
   | false=>none
  | _=>none
 y:=.agg [.ref f 0,.d (.agg ds)]
 ok a hT e st o x H:=by
  obtain⟨_,_,_,_,_,_⟩:=o
  dsimp only at H
  repeat' split at H
  all_goals cases H
  exact Dh (tz hT.2.2.2.2.2.2.2.1 (by assumption)) (by assumption) (by assumption) (h a)
def VH.a{l l':List α}(h:l.length+l'.length<=1000000000):VH P T where
 c e st o:=match o.op with
  | .call ⟨.builtin .append,⟨[x,y]⟩,⟨[t,t2]⟩⟩=>match IG t T.sl with
   | some (i,sz)=>match bp e x with
    | some (.dA F rows tk)=>match st.ag[tk]? with
     | some ⟨H,b,n,none⟩=>match bp e y with
      | some w=>match nE w with
       | some (f,aT)=>match Nat.beq t t2 && Nat.beq sz F && Nat.beq sz b && Nat.beq sz f && Nat.beq i H with
        | true=>some (.dA sz ((l++l').map row) tk,tk,⟨i,sz,(l++l').length,none⟩,.agg [.d (.sl 0 rows),.ref n 0,.d (.sl 0 aT)])
        | false=>none
       | none=>none
      | none=>none
     | _=>none
    | _=>none
   | none=>none
  | _=>none
 y:=.agg [.d (.sl 0 (l.map row)),.ref l.length 0,.d (.sl 0 (l'.map row))]
 ok hT base e st o x tk tl g:=by
  obtain⟨_,_,_,_,_,_⟩:=o
  dsimp only at g
  repeat' split at g
  any_goals cases g
  have j:=‹(_ && _)=true›;simp only[zam,Nat.beq_eq]at j;obtain⟨⟨⟨⟨rfl,rfl⟩,rfl⟩,rfl⟩,rfl⟩:=j;have s:=e8 hT.2.2.2.2.2.1 (by assumption);apply s.a (hn:=h)<;>assumption
def RH.bs(l':List α):RH P T g where
 c e st o:=match o.op with
  | .buildSlice t n ⟨ps⟩=>match IG t T.sl with
   | some (a,sz)=>match IG a T.zr with
    | some b=>match Bv (λi=>some (i*sz,sz)) e (List.replicate n b).flatten ps with
     | some r=>match Nat.ble (n*sz) 16777216 && Nat.blt 0 n && Nat.blt 0 sz with
      | true=>match(l'.map row).all (λr=>Nat.beq r.length sz) && Nat.beq (l'.map row).length n with
       | true=>some (.d (.sl sz (l'.map row)),.d (.agg r))
       | false=>none
      | false=>none
     | none=>none
    | none=>none
   | none=>none
  | _=>none
 y:=.d (.agg (l'.map row).flatten)
 ok f hT e st o x h:=by
  obtain⟨_,_,_,_,_,_⟩:=o
  dsimp only at h
  repeat' split at h
  any_goals cases h
  have s:=e8 hT.2.2.2.2.2.1 (by assumption);obtain⟨inf,j,k,k2,k3,k4,_⟩:=s.hi;obtain⟨z,H,z2⟩:=e8 hT.2.2.2.2.1 (by assumption);rw[k]at H;cases k2.symm.trans H;exact IW s.ht k k3 k2 (by rw[k4];exact zef _) (by assumption) (JJ z2) (by assumption) (by assumption)
def VH.av{l l':List α}(h:l.length+l'.length<=1000000000):VH P T where
 c e st o:=match o.op with
  | .call ⟨.builtin .append,⟨[x,y]⟩,⟨[t,t2]⟩⟩=>match IG t T.sl with
   | some (g,sz)=>match bp e x with
    | some (.vc tk n)=>match st.ag[tk]? with
     | some ⟨H,a,j,some rows⟩=>match bp e y with
      | some w=>match nE w with
       | some (b,aT)=>match Nat.beq t t2 && Nat.beq sz a && Nat.beq sz b && Nat.beq g H with
        | true=>some (.vc tk (l++l').length,tk,⟨g,sz,(l++l').length,some ((l++l').map row)⟩,.agg [.d (.sl 0 rows),.ref n j,.d (.sl 0 aT)])
        | false=>none
       | none=>none
      | none=>none
     | _=>none
    | _=>none
   | none=>none
  | _=>none
 y:=.agg [.d (.sl 0 (l.map row)),.ref l.length l.length,.d (.sl 0 (l'.map row))]
 ok hT base e st o x tk tl f:=by
  obtain⟨_,_,_,_,_,_⟩:=o
  dsimp only at f
  repeat' split at f
  any_goals cases f
  have i:=‹(_ && _)=true›;simp only[zam,Nat.beq_eq]at i;obtain⟨⟨⟨rfl,rfl⟩,rfl⟩,rfl⟩:=i;have s:=e8 hT.2.2.2.2.2.1 (by assumption);obtain⟨inf,z,k,k2,k3,k4,k5⟩:=s.hi;apply oa s.ht k k2 k3 k4 k5 (hn:=h)<;>assumption
end rh
section ha
variable {P:uG}{T:FT}{α:Type}[Inhabited α]
abbrev Hint.X(row:α->List D){l:List α}{i:Int}(h:0<=i/\i<l.length):Hint P T:=.q (.ix (row:=row) λ_=>h)
abbrev Hint.x[w:Rw α]{l:List α}{i:Int}(h:0<=i/\i<l.length):Hint P T:=.X w.row h
abbrev Hint.Y(row:α->List D){b}{l:List α}{i:Int}(h:b=true->0<=i/\i<l.length):Hint P T:=.j b (.ix (row:=row) h)
abbrev Hint.y[w:Rw α]{b}{l:List α}{i:Int}(h:b=true->0<=i/\i<l.length):Hint P T:=.Y w.row h
abbrev Hint.A(row:α->List D){l l':List α}(h:l.length+l'.length<=1000000000):Hint P T:=.e (.a (row:=row) h)
abbrev Hint.a[w:Rw α]{l l':List α}(h:l.length+l'.length<=1000000000):Hint P T:=.A w.row h
abbrev Hint.M(row:α->List D)(l:List α):Hint P T:=.q (.bs (row:=row) l)
abbrev Hint.m[w:Rw α](l:List α):Hint P T:=.M w.row l
abbrev Hint.O(row:α->List D){l l':List α}(h:l.length+l'.length<=1000000000):Hint P T:=.e (.av (row:=row) h)
abbrev Hint.o[w:Rw α]{l l':List α}(h:l.length+l'.length<=1000000000):Hint P T:=.O w.row h
abbrev Hint.l{α}{row:α->List D}(l:List α):Hint P T:=.q (.n (row:=row) l)
abbrev Hint.h{n}(h:cR n):Hint P T:=.q (.p λ_=>h)
abbrev Hint.H{b n}(h:b=true->cR n):Hint P T:=.j b (.p h)
abbrev Hint.k{f:Nat}{ds r}{p:Prop}(h:p->aR P f ds (·=r))(h':p):Hint P T:=.q (.k λ_=>h h')
abbrev Hint.K{β}[Inhabited β]{o}{y:β}{b}{f:Nat}{ds r}(h:o=some y->aR P f ds (·=r))(h':fH b o=some y):Hint P T:=.j b (.k λH=>h (P4 h' H))
abbrev Hint.kk{f:Nat}{ds r}(h:aR P f ds (·=r)):Hint P T:=.q (.k λ_=>h)
abbrev Hint.W(l:List Pt):Hint P T:=.U (pS l)
abbrev Hint.Z(x:EV)(l:List Pt):Hint P T:=.V x (pS l)
abbrev Hint.i(n:Int):Hint P T:=.g (.d (cI n))
abbrev Hint.b(b:Bool):Hint P T:=.g (.d (cB b))
abbrev Hint.c(c:uA):Hint P T:=.g (.d (KH c))
abbrev Hint.s(l:List uA):Hint P T:=.g (.d (cS l))
abbrev Hint.d(x:D):Hint P T:=.g (.d x)
end ha
section renew
variable {P:uG}{g:eI}{base:Nat}{w:uC}{st:St}
def St.renew(st:St)(tk:Nat)(x x':ju):= (st.aQ tk ⟨x.e,x.sz,0,none⟩).tok x'
def UI{tk x x' y t}(hlen:tk<st.ag.length)(h:(st.renew tk x x').ag[t]?=some y):
  t=st.ag.length/\y=x'∨t=tk/\y=⟨x.e,x.sz,0,none⟩∨t≠tk/\t<st.ag.length/\st.ag[t]?=some y:=by
 have hl:t<(st.renew tk x x').ag.length:=(zad.1 h).1;simp[St.renew,St.tok,St.aQ]at hl;by_cases h1:t=st.ag.length
 .subst h1;left;refine⟨rfl,?_⟩;simpa[St.renew,St.tok,St.aQ,eq_comm] using h
 .right;have b:t<st.ag.length:=by omega
  by_cases h2:t=tk
  .left;subst h2;refine⟨rfl,?_⟩;simpa[St.renew,St.tok,St.aQ,b,zaj,eq_comm] using h
  .right;refine⟨h2,b,?_⟩;simpa[St.renew,St.tok,St.aQ,b,zaj,zbg,zcq h2] using h
def UJ{tk x x' y t}(ht:t≠tk)(h:st.ag[t]?=some y):(st.renew tk x x').ag[t]?=some y:=by
 have b:t<st.ag.length:=(zad.1 h).1;rw[←h];simp[St.renew,St.tok,St.aQ,zaj,b,zbg,zcq ht]
def JL{tk x x'}:(st.renew tk x x').ag[st.ag.length]?=some x':=by simp[St.renew,St.tok,St.aQ]
def Inv.renew(h:Inv g base w st){tk x x' rows aT}(f:st.ag[tk]?=some x)(hx:x.own=some rows)(W:x'.own=some aT)
  {v'} {w'} {r} (X:w'.ownsRow base x'.e x'.sz v' x'.n r)
  (j:v'.ownBlock=(g.tk tk).ownBlock/\w'.heap.size=w.heap.size/\w.grownBy w' (g.tk tk).ownBlock∨v'.ownBlock=some w.heap.size/\Below w.heap.size w w')
  (Y:bY g.lim w x'.sz x'.n aT r) :
  ∃g',g'.tk st.ag.length=v'/\Inv g' base w' (st.renew tk x x')/\Step base g w st g' w' (st.renew tk x x'):=by
 have Z:∀b,(g.tk tk).ownBlock=some b->g.lim b=0:=λb H=>(h.MV f H).trans (Bq hx)
 have bS:∀b,(g.tk tk).ownBlock=some b->base<=b/\b<w.heap.size:=λb H=>h.vF f H
 have s:tk<st.ag.length:=(zad.1 f).1;have L:w.heap.size<=w'.heap.size:=by rcases j with⟨_,h1,_⟩|⟨_,h1⟩;omega;exact h1.size
 have M:w'.os=w.os/\w'.tape=w.tape/\w'.output=w.output:=by rcases j with⟨_,_,h1⟩|⟨_,h1⟩<;>exact⟨h1.os,h1.tape,h1.output⟩
 have B:∀k,k<w.heap.size->(g.tk tk).ownBlock≠some k->w'.heap[k]?=w.heap[k]?:=by
  intro k hk C;rcases j with⟨_,_,h1⟩|⟨_,h1⟩
  .exact h1.block k hk (zcq C)
  .exact h1.block k hk
 have O:∀k,k<w.heap.size->(g.tk tk).ownBlock≠some k->v'.ownBlock≠some k:=by
  grind
 let g':eI:=⟨λb=>if v'.ownBlock=some b then 0 else g.lim b,g.ob,λt=>if t=tk then .slice none 0 0 else if t=st.ag.length then v' else g.tk t⟩
 have Br:∀b,v'.ownBlock=some b->g'.lim b=0:=λb H=>by grind
 have D:∀b,v'.ownBlock≠some b->g'.lim b=g.lim b:=λb H=>by grind
 have U:g'.tk tk=.slice none 0 0:=by grind
 have E:g'.tk st.ag.length=v':=by grind
 have A:∀t,t≠tk->t<st.ag.length->g'.tk t=g.tk t:=λt ht hl=>by grind
 have P:∀k,k<base->(g.tk tk).ownBlock≠some k:=λk hk F=>by have:=(bS k F).1;omega
 have Q:Below base w w':=⟨M.1,M.2.1,M.2.2,L,λk hk=>B k (zaz hk h.base) (P k hk)⟩;have N:Pw g.lim w g'.lim w':=by
  refine⟨L,λb H=>?_,λb off H l=>?_⟩
  .grind
  .by_cases F:(g.tk tk).ownBlock=some b
   .rw[Z b F]at l;omega
   .exact World.cell?_of_block (w:=w) (a:=⟨b,off,none⟩) (B b H F)
 have p:=λ(t:Nat) (y:ju) (hy:(st.renew tk x x').ag[t]?=some y)=>UI s hy
 have hs:tR g w st g' w' (st.renew tk x x'):=by
  refine⟨N,λ_ _=>rfl,zag _,λt e' G v ht=>?_,by simp[St.renew,St.tok,St.aQ],λt y S rY hy l=>?_⟩
  .have I:t≠tk:=by
    grind
   exact⟨v,UJ I ht,zag _,λ_=>A t I (zad.1 ht).1⟩
  grind
 have J:∀o,st.live o->g.ob o<w.heap.size/\(g.tk tk).ownBlock≠some (g.ob o):=λo l=>⟨(h.vJ l).1,h.gh tk _ o f l⟩
 have q:∀t y,t≠tk->st.ag[t]?=some y->∀b,(g.tk t).ownBlock=some b->b<w.heap.size/\(g.tk tk).ownBlock≠some b/\v'.ownBlock≠some b:=λt y I hy b H=>by
  have h1:=(h.vF hy H).2;have h2:=h.mo t tk _ _ b I hy f H;simp_all
 refine⟨g',E,⟨zci h.base L,?_,?_,?_,h.ne,?_,?_,?_,h.tS.below Q,?_⟩,⟨hs,Q,λb H=>D b (O b (zaz H h.base) (P b H)),λb H hn=>?_,λb H hw=>?_⟩⟩
 .intro o ty cs hx;obtain⟨h1,h2,vs,h3,h4,z⟩:=h.row o ty cs hx;obtain⟨d,k2⟩:=J o ⟨_,hx,by simp⟩;exact⟨h1,(D _ (O _ d k2)).trans h2,vs,by grind,h4,λi c u j R=>⟨(z i c u j R).1.mono hs,(z i c u j R).2⟩⟩
 .intro o es hx;obtain⟨h1,ms,c,h3,h4,z,h6⟩:=h.map o es hx;obtain⟨d,k2⟩:=J o ⟨_,hx,by simp⟩;exact⟨h1,ms,c,by grind,h4,λi k y m a b=>⟨(z i k y m a b).1,(z i k y m a b).2.mono hs⟩,h6⟩
 .intro o y hx;obtain⟨h1,h2,h3⟩:=h.raw o y hx;obtain⟨d,k2⟩:=J o ⟨_,hx,by simp⟩
  grind
 .intro t e' G v ht;rcases p t _ ht with⟨h1,h2⟩|⟨h1,h2⟩|⟨h1,h2,h3⟩
  .grind
  .subst h1;cases h2;rw[U];exact⟨[],World.ownsRow_nil w' base _ _,λb H=>by cases H⟩
  .obtain⟨ys,d,k2⟩:=h.tail t e' G v h3;rw[A t h1 h2];exact⟨ys,ew d λb H=>B b (q t _ h1 h3 b H).1 (q t _ h1 h3 b H).2.1,λb H=>by rw[D b (q t _ h1 h3 b H).2.2];grind⟩
 .intro t K y y' b C ht T H;rcases p t _ ht with⟨h1,h2⟩|⟨h1,h2⟩|⟨h1,h2,h3⟩
  .subst h1;rw[E]at H;rcases p K _ T with⟨d,k2⟩|⟨d,k2⟩|⟨d,k2,k3⟩
   .omega
   .rw[d,U];intro e;cases e
   grind
  .rw[h1,U]at H;cases H
  .rw[A t h1 h2]at H;rcases p K _ T with⟨d,k2⟩|⟨d,k2⟩|⟨d,k2,k3⟩
   .rw[d,E]
    grind
   .rw[d,U];intro e;cases e
   .rw[A K d k2];exact h.mo t K _ _ b C h3 k3 H
 .intro t y o ht l;have V:st.live o:=l;obtain⟨d,k2⟩:=J o V;rcases p t _ ht with⟨h1,h2⟩|⟨h1,h2⟩|⟨h1,h2,h3⟩
  .rw[h1,E];grind
  .rw[h1,U];intro e;cases e
  .rw[A t h1 h2];exact h.gh t y o h3 V
 .intro t e' G v S ht;rcases p t _ ht with⟨h1,h2⟩|⟨h1,h2⟩|⟨h1,h2,h3⟩
  .subst h1;subst h2;cases W;rw[E];exact⟨_,X,λb H=>Br b H,Y.mono N⟩
  .cases h2
  .obtain⟨ys,d,k2,k3⟩:=h.own t e' G v S h3;rw[A t h1 h2];exact⟨ys,ew d λb H=>B b (q t _ h1 h3 b H).1 (q t _ h1 h3 b H).2.1,λb H=>by rw[D b (q t _ h1 h3 b H).2.2];grind,k3.mono N⟩
 .have C:(g.tk tk).ownBlock≠some b:=λe=>hn (.inr ⟨tk,x,f,e⟩)
  simp_all
 .rcases hw with⟨o,h1,h2⟩|⟨t,y,h1,h2⟩
  .exact .inl ⟨o,h1,h2⟩
  .rcases p t _ h1 with⟨d,k2⟩|⟨d,k2⟩|⟨d,k2,k3⟩
   .rw[d,E]at h2;rcases j with⟨c1,_,_⟩|⟨c1,_⟩
    .exact .inr ⟨tk,x,f,by rw[←c1];exact h2⟩
    simp_all
   .rw[d,U]at h2;cases h2
   .rw[A t d k2]at h2;exact .inr ⟨t,y,k3,h2⟩
end renew
section rows
variable {P:uG}(w:uC)
theorem pX{a b c}(h:min a b=c):Nat.min a b=c:=h
def laid(cur:List uB)(o:Nat)(cs:List uB):= cur.take o++cs++cur.drop (o+cs.length)
theorem gI{cur cs o}(h:o+cs.length<=cur.length):(laid cur o cs).length=cur.length:=by
 simp[laid];omega
theorem xE{cur cs o}(h:o+cs.length<=cur.length)(j):(laid cur o cs)[j]?=if o<=j/\j<o+cs.length then cs[j-o]? else cur[j]?:=by
 unfold laid;by_cases h1:j<o
 .rw[zaa (by omega),zas,zaj (by grind),zah,zab h1]
 grind
theorem lQ{h s ty e inf sz b o K d pB BS cur a cs}(ht:P.underlying h=some (.slice e))(hi:P.info? e=some inf)(dE:inf.size=sz)
  (H:w.heap[b]?=some (.cells cur e (0,0))) (hl:cs.length=Nat.min pB K*sz) (G:∀j v,cs[j]?=some v->w.cell? (a.add j)=some v) (h1:∀v∈cs,v.oneCell'=true) (f:o+cs.length<=cur.size) :
  (Builtin.copy_ #[h,s] ty #[.slice (some ⟨b,o,none⟩) K d,.slice (some a) pB BS]).run P w=.ok (goInt (Nat.min pB K)) (w.setRow b (laid cur.toList o cs).toArray):=by
 subst dE;have c:(Builtin.firstCells inf.size (Nat.min pB K) (.slice (some a) pB BS)).run P w=.ok cs.toArray w:=run_firstCells_some w inf.size (Nat.min pB K) a pB BS cs hl G;have g:=run_storeCells_at P b o e cs 0 cur w H (by omega) h1;simp only[zct]at g;simp[Builtin.copy_,run_underlying ht,Builtin.lenOf,sizeOf,typeInfo,hi,c,g,goInt,laid]
theorem Aw{t ty e inf z sz b o n c cur}(ht:P.underlying t=some (.slice e))(hi:P.info? e=some inf)(h:inf.zero=some z)(k:z.cells.size=sz)
  (H:w.heap[b]?=some (.cells cur e (0,0))) (hn:0<n) (G:o+n*sz<=cur.size) (h1:∀v∈(Builtin.zeroCells z.cells n).toList,v.oneCell'=true) :
  (Builtin.clear_ #[t] ty #[.slice (some ⟨b,o,none⟩) n c]).run P w=.ok (.tuple #[]) (w.setRow b (laid cur.toList o (Builtin.zeroCells z.cells n).toList).toArray):=by
 have dE:(Builtin.zeroCells z.cells n).toList.length=n*sz:=by rw[zbx,size_zeroCells,k]
 have g:=run_storeCells_at P b o e (Builtin.zeroCells z.cells n).toList 0 cur w H (by rw[zct,dE];exact G) h1;simp only[zct]at g;cases n with
 | zero=>simp at hn
 | succ n=>simp[Builtin.clear_,run_underlying ht,zeroValue,typeInfo,hi,h,g,laid]
theorem GK{t ty e A c}(ht:P.underlying t=some (.slice e)):(Builtin.clear_ #[t] ty #[.slice A 0 c]).run P w=.ok (.tuple #[]) w:=by
 cases A<;>simp[Builtin.clear_,run_underlying ht]
theorem JM w{o:Oper}{a K Q}(d s)(t H)
  (b:o.op=.call { callee:=.builtin .copy,args:=#[d,s],argTypes:=#[t,H] }) (v u) (c:a.eval d=v) (hs:a.eval s=u) {v'} {w'}
  (e:(Builtin.copy_ #[t,H] o.type #[v,u]).run P w=.ok v' w') (h:K (a.put o.dst v') w'):o.wp P a w K Q:=by
 unfold Oper.wp execOp;simp only[b,resolve,invoke,builtin,Sem.run_bind,Sem.run_pure,Result.andThen_ok,zed,zbb,zel,c,hs,e];exact h
theorem iH w{ops rest o a Q}(H:o.guard=none)(d s)(t b)
  (c:o.op=.call { callee:=.builtin .copy,args:=#[d,s],argTypes:=#[t,b] }) (v u) (e:a.eval d=v) (hs:a.eval s=u) {v'} {w'}
  (f:(Builtin.copy_ #[t,b] o.type #[v,u]).run P w=.ok v' w') (h:wpList P ops Q rest (a.put o.dst v') w'):wpList P ops Q (o::rest) a w :=
 wpList_plain H λ_ hK=>JM w d s t b c v u e hs f (hK _ _ h)
theorem kU{ops o a w K Q E}
  (H:o.guard=none) (d x) (h s) (q:o.op=Op.call { callee:=Callee.builtin Builtin.copy,args:=#[d,x],argTypes:=#[h,s] })
  (v u) (b:a.eval d=v) (hx:a.eval x=u) {v'} {w'} (c:(Builtin.copy_ #[h,s] o.type #[v,u]).run P w=.ok v' w') (hK:K (a.put o.dst v') w') :
  if Region.wanted o (yielded ops a.tmps)then Oper.wp P o a w K Q else E:=by
 rw[zab (by simp[Region.wanted,H])];exact JM w d x h s q v u b hx c hK
theorem je w{ops rest o a Q}(H:o.guard=none) d(t)
  (b:o.op=.call { callee:=.builtin .clear,args:=#[d],argTypes:=#[t] }) v (c:a.eval d=v) {v'} {w'}
  (e:(Builtin.clear_ #[t] o.type #[v]).run P w=.ok v' w') (h:wpList P ops Q rest (a.put o.dst v') w'):wpList P ops Q (o::rest) a w :=
 wpList_plain H λ_ hK=>by
  unfold Oper.wp execOp;simp only[b,resolve,invoke,builtin,Sem.run_bind,Sem.run_pure,Result.andThen_ok,zed,zbb,zel,c,e];exact hK _ _ h
end rows
end Go.Abs
namespace Go.Abs
open Go.RowKit
section srcs
variable {P:uG}(w:uC)
theorem UL{h s ty e inf sz b o K d m u cur A cs}(ht:P.underlying h=some (.slice e))(hi:P.info? e=some inf)(dE:inf.size=sz)
  (H:w.heap[b]?=some (.cells cur e (0,0))) (hm:m<=K) (a:(Builtin.firstCells sz m (.slice A m u)).run P w=.ok cs.toArray w) (h1:∀v∈cs,v.oneCell'=true) (G:o+cs.length<=cur.size) :
  (Builtin.copy_ #[h,s] ty #[.slice (some ⟨b,o,none⟩) K d,.slice A m u]).run P w=.ok (goInt m) (w.setRow b (laid cur.toList o cs).toArray):=by
 subst dE;have X:Nat.min m K=m:=pX (by omega);have g:=run_storeCells_at P b o e cs 0 cur w H (by omega) h1;simp only[zct]at g;simp[Builtin.copy_,run_underlying ht,Builtin.lenOf,sizeOf,typeInfo,hi,X,a,g,goInt,laid]
theorem ES{t ty e inf sz b n c m u cur A cs}(ht:P.underlying t=some (.slice e))(hi:P.info? e=some inf)(dE:inf.size=sz)
  (h:w.heap[b]?=some (.cells cur e (0,0))) (H:n+m<=c) (a:(Builtin.firstCells sz m (.slice A m u)).run P w=.ok cs.toArray w) (h1:∀v∈cs,v.oneCell'=true) (G:n*sz+cs.length<=cur.size) :
  (Builtin.append_ #[t,t] ty #[.slice (some ⟨b,0,none⟩) n c,.slice A m u]).run P w=.ok (.slice (some ⟨b,0,none⟩) (n+m) c) (w.setRow b (laid cur.toList (n*sz) cs).toArray):=by
 subst dE;have g:=run_storeCells_at P b (n*inf.size) e cs 0 cur w h (by omega) h1;simp only[zct]at g;simp[Builtin.append_,run_underlying ht,sizeOf,typeInfo,hi,Builtin.lenOf,H,a,Addr.add_lit,g,laid]
end srcs
def Ax{cur o cs}(h:o+cs.length<=cur.length){k}(hk:k<=o):(laid cur o cs).take k=cur.take k:=by
 apply zbv;intro j;rw[zah,zah,xE h]
 grind
def ib{cur o cs}(h:o+cs.length<=cur.length){k}(hk:o+cs.length<=k):(laid cur o cs).take k=cur.take o++cs++(cur.take k).drop (o+cs.length):=by
 apply zbv;intro j;rw[zah,xE h];by_cases h1:j<o
 .rw[zab (by omega),zaa (by omega),zas,zaj (by grind),zah,zab h1]
 .by_cases h2:j<o+cs.length
  .rw[zab (by omega),zab ⟨by omega,h2⟩,zas,zan (by grind),zaj (by grind)]
   grind
  .rw[zan (by grind),zbd,zah];have e:o+cs.length+(j-(cur.take o++cs).length)=j:=by grind
   rw[e]
   grind
def tY{z n}(h:∀k,k<z.size->z[k]!.oneCell'=true):∀v∈(Builtin.zeroCells z n).toList,v.oneCell'=true:=λv hv=>by
 simp only[Builtin.zeroCells,zfv,Array.toList_range,zck,List.mem_range]at hv;obtain⟨i,hi,rfl⟩:=hv;refine h _ (zdq _ ?_)
 grind
section parts
variable {lim:Nat->Nat}{w:uC}{sz n m:Nat}{rows aT:List (List D)}{xs ys:List uB}
def bY.take(h:bY lim w sz n rows xs){k}(hk:k<=n):bY lim w sz k (rows.take k) (xs.take (k*sz)):=by
 have hl:=h.len;refine⟨by rw[zaw];omega,λr b=>h.row r (zco b),λi c u a H=>?_⟩
 rw[zah]at H;split at H
 .refine h.rep i c u ?_ H;rw[←zcz k rows,zdj,zaj (zad.1 a).1];exact a
 grind
def bY.drop(h:bY lim w sz n rows xs){k}(hk:k<=n):bY lim w sz (n-k) (rows.drop k) (xs.drop (k*sz)):=by
 have hl:=h.len;refine⟨by rw[zbc];omega,λr H=>h.row r (zca H),λi c u b a=>?_⟩
 rw[zbd]at a;refine h.rep (k*sz+i) c u ?_ a;have A:(rows.take k).flatten.length=k*sz:=by
  rw[eK (λr H=>h.row r (zco H)),zaw];simp_all
 rw[←zcz k rows,zdj,zan (by omega),A,show k*sz+i-k*sz=i from by omega];exact b
def bY.app(h:bY lim w sz n rows xs)(hx:xs.length=n*sz)(h':bY lim w sz m aT ys):bY lim w sz (n+m) (rows++aT) (xs++ys):=by
 refine⟨by rw[zar,h.len,h'.len],λr a=>?_,λi c u H b=>?_⟩
 .rcases zbi.1 a with a|a
  .exact h.row r a
  .exact h'.row r a
 .have A:rows.flatten.length=xs.length:=by rw[eK h.row,h.len,hx]
  rw[zdj]at H;by_cases hi:i<xs.length
  .rw[zaj (by omega)]at H;rw[zaj hi]at b;exact h.rep i c u H b
  .rw[zan (by omega)]at H;rw[zan (by omega)]at b;rw[A]at H;exact h'.rep _ c u H b
def bY.repl(h:bY lim w sz n rows xs)(hx:xs.length=n*sz)(h':bY lim w sz m aT ys)(hy:ys.length=m*sz){i j}(R:i<=j)(H:j<=n):
  bY lim w sz (i+m+(n-j)) (rows.take i++aT++rows.drop j) (xs.take (i*sz)++ys++xs.drop (j*sz)):=by
 have a:i*sz<=n*sz:=zbn _ (by omega);refine((h.take (by omega)).app (by rw[zaw];omega) h').app (by rw[zar,zaw,hy,zcu];omega) (h.drop H)
def bY.one(h:bY lim w sz n rows xs)(hx:xs.length=n*sz):∀x∈xs,x.oneCell'=true:=λx a=>by
 obtain⟨j,H⟩:=zcr.1 a;have hl:=(zad.1 H).1;exact(h.rep j _ x (zaf (by rw[eK h.row,h.len];omega)) H).2
end parts
section con
variable {P:uG}{f:Ctx}{g:eI}{base:Nat}{w:uC}{st:St}
def v7{tk x rows aT n}(h:Inv g base w st)(d:st.ag[tk]?=some x)(hx:x.own=some rows){v' w' H}(i:w'.ownsRow base x.e x.sz v' n H)
  (a:v'.ownBlock=(g.tk tk).ownBlock/\w'.heap.size=w.heap.size/\w.grownBy w' (g.tk tk).ownBlock∨v'.ownBlock=some w.heap.size/\Below w.heap.size w w') (j:bY g.lim w x.sz n aT H) :
  mh ⟨g,w,st,base⟩ (QE (.vc st.ag.length n) (st.renew tk x ⟨x.e,x.sz,n,some aT⟩)) (.returned v') w':=by
 obtain⟨g',h1,h2,h3⟩:=h.renew (x':=⟨x.e,x.sz,n,some aT⟩) d hx rfl i a j;refine⟨v',_,_,g',rfl,⟨.aW _,rfl⟩,?_,h2,(rk.refl ⟨g,w,st,base⟩).step h3⟩;have b:=(fY i).1;refine .vc _ _ _ (by simp[St.renew,St.tok,St.aQ]) (by grind) λy S hy c=>?_
 rw[JL]at hy
 grind
def Xe{args a b c}(he:args=[a,b,c]){vs}(h:th g w st args vs):∃x y z,vs=#[x,y,z]/\aY g w st a x/\aY g w st b y/\aY g w st c z:=by
 subst he;obtain⟨h1,h2⟩:=h;obtain⟨l⟩:=vs
 match l,h1 with
 | [x,y,z],_=>exact⟨x,y,z,rfl,h2 0 _ _ rfl rfl,h2 1 _ _ rfl rfl,h2 2 _ _ rfl rfl⟩
def args4{args a b c d}(he:args=[a,b,c,d]){vs}(h:th g w st args vs):∃x y z u,vs=#[x,y,z,u]/\aY g w st a x/\aY g w st b y/\aY g w st c z/\aY g w st d u:=by
 subst he;obtain⟨h1,h2⟩:=h;obtain⟨l⟩:=vs
 match l,h1 with
 | [x,y,z,u],_=>exact⟨x,y,z,u,rfl,h2 0 _ _ rfl rfl,h2 1 _ _ rfl rfl,h2 2 _ _ rfl rfl,h2 3 _ _ rfl rfl⟩
end con
section nilc
variable {P:uG}{f:Ctx}{N:Nat}{S:Start}{Q:EV->St->Prop}{k:List Item}{env:Env}{st:St}{ops rest:List Oper}
 {d:Option Tmp} {ty:uE} {pos:String} {after:uD Edge} {gd:Option (Nat×Bool)} {t t2 e:uE} {x y:uH}
def bO.Nz{sz rows}(ht:P.underlying t=some (.slice e))(hx:bp env x=some (.d (.sl sz rows)))(m:eE N d=true)
  (h:∀b:Bool,(b=true->rows=[])->bO P f N S Q ops rest k (env.put d (.d (.ex (.bool b)))) st) :
  bO P f N S Q ops (⟨d,.binOp .eql t x (.const (.slice none 0 0)) t2,ty,pos,after,none⟩::rest) k env st:=by
 intro i hi g w tmps H n l hn;have a:=aq l hx;generalize hv:Act.eval ⟨tmps,[]⟩ x=v at a;cases a with
 | d _ _ a =>
  obtain⟨A,c,vs,rfl,_,_,I,_⟩:=Jv a;have o:ops.toArray[i]?=some (⟨d,.binOp .eql t x (.const (.slice none 0 0)) t2,ty,pos,after,none⟩:Oper):=by simpa using (hi 0).symm
  have p:(execOp (Act.eval ⟨tmps,[]⟩) (⟨d,.binOp .eql t x (.const (.slice none 0 0)) t2,ty,pos,after,none⟩:Oper)).run P w=.ok (.value (.bool A.isNone)) w:=by
   have h1:Act.eval ⟨tmps,[]⟩ (.const (.slice none 0 0))=.slice none 0 0:=rfl;simp[execOp,hv,h1,eqGuard,Lib.run_eql_slice_nil w t e A rows.length c 0 0 ht]
  rw[zap,gi];refine bT.value o (by simp[Region.wanted]) p ?_;subst hn;refine h A.isNone (λq=>?_) (i+1) (λj=>by have:=hi (j+1);grind) g w _ H n (pq l m (.d _ _ (.ex _))) fX;simp_all
def bg.Xf{f args n sz e rows}(h:bg P f args ⟨[],[]⟩ (QE (.vc 0 n) ⟨[],[⟨e,sz,n,some rows⟩]⟩)):bg P f args ⟨[],[]⟩ (QD (·=.sl sz rows)):=by
 intro g w base vs hi ha;refine(h g w base vs hi ha).mono ?_;rintro j w' ⟨v,r,st',g',rfl,⟨a,rfl⟩,c,H,i⟩;have b:=a _ _ _ _ c;obtain⟨g2,k,k2,k3,k4⟩:=H.freeze (tk:=0) rfl;refine⟨v,.d (.sl sz rows),_,g2,rfl,⟨_,.aW _,rfl⟩,.d _ _ ?_,k2,i.step k3⟩;rcases qu H rfl b with hv|⟨h0,W,A,hv⟩
 .rw[hv];exact k4
 .rw[hv,W];exact .nil sz A
section view
variable {α:Type}[Inhabited α]{sz:Nat}{row:α->List D}{l a:List α}{inf:TypeInfo}{tk n lo m:Nat}
def Xg(ht:P.underlying t=some (.slice e))(hx:bp env x=some (.vw tk n lo m)):aG P env st ⟨d,.call ⟨.builtin .len,#[x],#[t]⟩,ty,pos,after,gd⟩ (.d (cI m)):=λg base w tmps H a=>by
 have h:=aq a hx;generalize hv:Act.eval ⟨tmps,[]⟩ x=v at h;cases h with
 | vw _ _ _ _ _ _ b =>
  obtain⟨A,c,rfl⟩:=b;exact⟨_,.d _ _ (.ex _),λw' _=>Bn ht hv w'⟩
def K5{kk i}{e':Nat}(ht:P.underlying t=some (.slice e))(hi:P.info? e=some inf)(dE:inf.size=sz)(hx:bp env x=some (.vw tk n lo m))(H:st.ag[tk]?=some ⟨e',sz,n,some (l.map row)⟩)(hy:bp env y=some (.d (.ex (.int kk i))))(h:0<=i/\i<m):
  aG P env st ⟨d,.indexAddr t x y,ty,pos,after,gd⟩ (.vp tk n (lo+i.toNat) 0):=λg base w tmps a f=>by
 have j:=aq f hx;generalize hv:Act.eval ⟨tmps,[]⟩ x=v at j;cases j with
 | vw _ _ _ _ _ k q o =>
  obtain⟨_,h2⟩:=o _ _ H rfl;rcases h2 rfl with h0|⟨b,M,c,r,q1,q2⟩
  .omega
  .subst dE;refine⟨.pointer (some ⟨b,lo*inf.size+i.toNat*inf.size,none⟩),.vp _ _ _ _ _ k ⟨_,_,rfl⟩ λz rows p s=>?_,λw' _=>?_⟩
   .rw[H]at p
    grind
   .rw[q2]at hv;have:=yG (d:=d) (ty:=ty) (pos:=pos) (after:=after) (gd:=gd) ht hi hv (aq f hy).aO h.1 h.2 w';rw[Addr.add_lit]at this;exact this
def BT(hw:(l.drop lo).take a.length=a){i}(hi:i<a.length):lo+i<l.length/\nth l (lo+i)=nth a i:=by
 have h1:a[i]?=l[lo+i]?:=by
  have:=zaq (λz=>z[i]?) hw
  grind
 have h2:a[i]?=some a[i]:=zaf hi;rw[h2]at h1;have h3:=(zad.1 h1.symm).1;exact⟨h3,by simp[nth,←h1,h2]⟩
def UM{i o e':Nat}{c}(hw:(l.drop lo).take a.length=a)(h1:(P.underlying t).map qH=some true)(hx:bp env x=some (.vp tk n (lo+i) o))(h:st.ag[tk]?=some ⟨e',sz,n,some (l.map row)⟩)(hi:i<a.length)(H:(row (nth a i))[o]?=some c):
  aG P env st ⟨d,.load t x,ty,pos,after,gd⟩ (.d c):=xA h1 hx h (BT hw hi).1 (by rw[(BT hw hi).2];exact H)
def Ay{i o e' m:Nat}{cs}(hw:(l.drop lo).take a.length=a)(h1:(P.underlying t).map qH=some false)(hs:(P.info? t).map (·.size)=some m)(hx:bp env x=some (.vp tk n (lo+i) o))(h:st.ag[tk]?=some ⟨e',sz,n,some (l.map row)⟩)(hi:i<a.length)
  (hm:o+m<=sz) (H:((row (nth a i)).drop o).take m=cs):aG P env st ⟨d,.load t x,ty,pos,after,gd⟩ (.d (.agg cs)):=kg h1 hs hx h (BT hw hi).1 hm (by rw[(BT hw hi).2];exact H)
def Qp{z r s i j}{e':Nat}(ht:P.underlying t=some (.slice e))(hi:P.info? e=some inf)(dE:inf.size=sz)(hx:bp env x=some (.vc tk n))(a:st.ag[tk]?=some ⟨e',sz,n,some (l.map row)⟩)(hy:bp env y=some (.d (.ex (.int r i))))(B:bp env z=some (.d (.ex (.int s j))))
  (h:0<=i/\i<=j/\j<=l.length):aG P env st ⟨d,.slice t x (some y) (some z) none,ty,pos,after,gd⟩ (.vw tk n i.toNat ((l.take j.toNat).drop i.toNat).length):=λg base w tmps H k=>by
 have C:((l.take j.toNat).drop i.toNat).length=j.toNat-i.toNat:=by rw[zbc,zaw];omega
 rw[C];have m:tk<st.ag.length:=(zad.1 a).1;have u:=aq k hx;generalize M:Act.eval ⟨tmps,[]⟩ x=v' at u;have o:∀A p c,v'=.slice A p c->(l.length:Int)<=c->∀w':uC,(execOp (Act.eval ⟨tmps,[]⟩) ⟨d,.slice t x (some y) (some z) none,ty,pos,after,gd⟩).run P w'=.ok (.value (sliced A i.toNat j.toNat c sz)) w':=λA p c hv I w'=>by
  rw[hv]at M;simp only[execOp,M,Sem.run_bind,run_sliceAt_slice w' t _ _ _ _ (by rw[iR ht];exact ht),Option.map_none,Option.map_some,(aq k hy).aO,(aq k B).aO];rw[run_slice_lh w' t A p c (by rw[iR ht];exact ht) r s i j h.1 h.2.1 (by omega)];simp[iR ht,cM hi,dE]
 rcases qu H a u with F|⟨J,K,A,D⟩
 .obtain⟨F,xs,h2,_,h4⟩:=Gv H a F;have hn:n=l.length:=by have:=h4.len;simp_all
  rcases h2.2 with⟨hv,h0⟩|⟨b,c,E,hv,L,N,O,Q,R,S⟩
  .refine⟨_,.vw _ _ _ _ _ m ⟨_,_,rfl⟩ λq rows f v=>?_,λw' _=>o _ _ _ hv (by omega) w'⟩;rw[a]at f;omega
  .refine⟨_,.vw _ _ _ _ _ m ⟨_,_,rfl⟩ λq rows f v=>?_,λw' _=>o _ _ _ hv (by omega) w'⟩;rw[a]at f;cases f;refine⟨zag _,λ_=>?_⟩;rcases Nat.eq_zero_or_pos (j.toNat-i.toNat)with h0|h0
   .omega
   .refine .inr ⟨b,n,c,c-i.toNat,by rw[←F,hv],?_⟩;have G:¬(c=i.toNat):=by omega
    simp[G,Addr.add_lit]
 .have hl:l=[]:=by simp_all
  rw[hl]at h;simp at h;refine⟨_,.vw _ _ _ _ _ m ⟨_,_,rfl⟩ λq rows f v=>?_,λw' _=>o _ _ _ D (by rw[hl];simp) w'⟩;rw[a]at f;omega
def Sk{i j}(h:j<=l.length):(l.drop i).take ((l.take j).drop i).length=(l.take j).drop i:=by
 rw[zfl,zaw,zbc];simp_all
end view
end nilc
section build
variable {P:uG}{env:Env}{st:St}{d:Option Tmp}{ty:uE}{pos:String}{after:uD Edge}{gd:Option (Nat×Bool)}{t t2 e:uE}{x y:uH}
def zS{α:Type}{base n sz}{l0:LQ α}{row inf z H l}(ht:P.underlying t=some (.slice e))(hi:P.info? e=some inf)(dE:inf.size=sz)(F:inf.zero=some z)(G:Nat.beq z.cells.size sz=true)
  (s:(Nat.ble (n*sz) 16777216 && Nat.blt 0 n && Nat.blt 0 sz)=true) (I:cellsD (.d (cv z))=some H) (hl:Bv (λi=>some (i*sz,sz)) env (List.replicate n H).flatten l=some (l0.map row).flatten)
  (v:((l0.map row).all (λr=>Nat.beq r.length sz) && Nat.beq (l0.map row).length n)=true) :
  uL P base env st ⟨d,.buildSlice t n l.toArray,ty,pos,after,gd⟩ (.vc st.ag.length l0.length) (st.tok ⟨e,sz,l0.length,some (l0.map row)⟩):=by
 simp only[zam]at s v;have K:=zai G;have hn:=zai v.2;have Y:=gj s.1.2;have M:=gj s.2;have J:=zae s.1.1;intro g w tmps a L;have A:=iE (g:=g) (w:=w) (st:=st) I (.d _ _ (nC _ _ z));have b:H.length=sz:=by rw[←A.1,K]
 have B:(List.replicate n H).flatten.length=n*sz:=by simp[b]
 have C:∀r∈l0.map row,r.length=sz:=by
  simp_all
 have N:Ge g.lim w (List.replicate n H).flatten ((Array.range (n*sz)).map (z.cells[· % z.cells.size]!)):=by
  refine⟨by simp[B],λi c u f D=>?_⟩;have E:i<n*sz:=by rw[←B];grind
  have Z:i % sz<sz:=zdq _ M;have hdiv:i / sz<n:=zdg (by rw[zda];exact E);have O:i=i / sz*sz+i % sz:=by rw[zda];exact(zeg i sz).symm
  have Q:=ig (rows:=List.replicate n H) (sz:=sz) (i:=i / sz) (j:=i % sz) (row:=H) (c:=H[i % sz]'(by omega)) (by grind) (by grind) (zaf (by omega));rw[←O,f]at Q;have k:H[i % sz]?=some c:=by grind
  have m:z.cells[i % sz]?=some u:=by
   have rY:i % sz<z.cells.size:=by omega
   have:((Array.range (n*sz)).map (z.cells[· % z.cells.size]!))[i]?=some (z.cells[i % z.cells.size]!):=by simp[E]
   rw[this]at D
   grind
  exact A.2 _ c u k m
 obtain⟨us,h1,h2,h3⟩:=sb L l _ _ _ hl N;have R:=eK C;have U:us.size=n*sz:=by rw[h2.1,R,hn]
 have o:n<=maxLen:=by
  have:n*1<=n*sz:=Nat.mul_le_mul_left n M;simp only[maxLen];omega
 have S:(w.alloc (.cells us e)).ownsRow base e sz (.slice (some ⟨w.heap.size,0,none⟩) n n) n us.toList :=
  ⟨by simp[U],.inr ⟨w.heap.size,n,us,rfl,a.base,heap_alloc_new w _,zag _,o,U,by rw[zbj (by simp[U])]⟩⟩
 obtain⟨g',k1,_,_,k2,k3⟩:=a.tn ⟨e,sz,n,some (l0.map row)⟩ S (.inr ⟨rfl,(Below.refl _ w).alloc (zag _) _⟩) (λrows T=>by
  cases T;exact⟨hn,C,λi c u f D=>h2.2 i c u f (by simp_all)⟩)
 have q:l0.length=n:=by simp_all
 rw[q];refine⟨.slice (some ⟨w.heap.size,0,none⟩) n n,g',_,?_,.vc _ _ _ (by simp[St.tok]) ⟨_,_,_,rfl⟩ λy rows hy ho=>?_,k2,k3⟩
 .subst dE;have V:¬(16777216<n*inf.size):=by omega
  have W:¬n*inf.size=0:=by
   intro h0;rcases Nat.mul_eq_zero.1 h0 with h|h<;>omega
  have X:Instr.fill (λi=>some (i*inf.size,inf.size)) (Array.map (λx=>z.cells[x % z.cells.size]!) (Array.range (n*inf.size))) (List.map (λp=>(p.1,Act.eval ⟨tmps,[]⟩ p.2)) l)=some us:=h1;simp[execOp,Instr.buildSlice,run_underlying ht,cM hi,V,W,ja hi F,X,newRow]
 .have:y=⟨e,sz,n,some (l0.map row)⟩:=by simpa[St.tok,eq_comm] using hy
  simp_all
end build
section move
variable {P:uG}{f:Ctx}{N:Nat}{S:Start}{Q:EV->St->Prop}{k todo:List Item}{env:Env}{st:St}
def aE.move{i tk e sz n:Nat}{rows}(hl:lookup i env=some (.vc tk n))(d:st.ag[tk]?=some ⟨e,sz,n,some rows⟩)
  (h:aE P f N S Q todo ((i,.vc st.ag.length n)::env) (st.renew tk ⟨e,sz,n,some rows⟩ ⟨e,sz,n,some rows⟩)):aE P f N S Q todo env st:=by
 intro g w tmps H l k o;obtain⟨xs,o1,o2,p⟩:=H.own tk e sz n rows d;obtain⟨g',s,k2,k3⟩:=H.renew (x':=⟨e,sz,n,some rows⟩) d rfl rfl o1 (.inl ⟨rfl,rfl,⟨rfl,rfl,rfl,zag _,λ_ _ _=>rfl⟩⟩) p;refine h g' w tmps k2 (l.step k3) (λj y hy=>?_) o;unfold lookup at hy;have q:=k.mono k3.cU;cases a:Nat.beq j i with
 | true =>
  rw[a]at hy;cases hy;have:=zai a;subst this;obtain⟨v,m1,m2⟩:=k j _ hl;refine⟨v,m1,?_⟩;have b:∃A m c,v=.slice A m c:=by cases m2 with|vc _ _ _ _ b _=>exact b
  refine .vc _ _ _ (by simp[St.renew,St.tok,St.aQ]) b λy t hy u=>?_
  rw[JL]at hy;cases hy;refine⟨zag _,λ_=>?_⟩;rcases qu H d m2 with hv|⟨r,x,A,hv⟩
  .grind
  .exact .inr ⟨r,A,hv⟩
 | false =>
  rw[a]at hy;exact q j y hy
def Qq(ρ τ:Nat->Nat)(env:Env):Env:=env.map λp=>(p.1,p.2.ren ρ τ)
def GM{ρ τ}:∀env i y,lookup i env=some y->lookup i (Qq ρ τ env)=some (y.ren ρ τ)
 | [],i,y,h=>by simp[lookup]at h
 | (j,x)::env,i,y,h=>by
  unfold lookup at h;unfold Qq;rw[zbb];unfold lookup;cases H:Nat.beq i j with
  | true=>rw[H]at h;grind
  | false =>
   rw[H]at h;exact GM env i y h
def aE.Sl(rs ts){s0 st' env'}(q:S.st=s0)(u:xy rs ts st' st=true)(x:st'.aB.all (gG st'.aB.length st'.ag.length)=true)(z:BA st'.aB.length st'.ag.length env'=true)
  (hl:(Nat.ble s0.aB.length rs.length && Nat.ble s0.ag.length ts.length)=true) (W:rs.take s0.aB.length=List.range s0.aB.length) (R:ts.take s0.ag.length=List.range s0.ag.length)
  (A:rs.map (λr=>st.aB[r]?)=st'.aB.map λy=>some (y.ren (b8 rs st.aB.length) (b8 ts st.ag.length))) (ht:ts.map (λr=>st.ag[r]?)=st'.ag.map some)
  (B:dG env (Qq (b8 rs st.aB.length) (b8 ts st.ag.length) env')) (h:aE P f N S Q todo env' st'):aE P f N S Q todo env st:=by
 obtain⟨p,C,T,l1,l2⟩:=Part.of u x A ht;subst q;simp only[zam]at hl;have D:=zae hl.1;have E:=zae hl.2;have same:∀{l:LQ Nat} {n N:Nat},l.take n=List.range n->n<=l.length->∀i,i<n->b8 l N i=i:=fun {l n N} hl hn i hi=>by
  have e:(l.take n)[i]?=some i:=by rw[hl,List.getElem?_range hi]
  rw[zah,zab hi]at e;simp[b8,e]
 have F:=λi hi=>same (N:=st.aB.length) W D i hi
 have s:=λi hi=>same (N:=st.ag.length) R E i hi
 have k:∀{i:Nat},i<st'.ag.length->st'.ag[i]?=st.ag[b8 ts st.ag.length i]?:=fun {i} hi=>by
  rw[p.ag i _ (zaf hi),zaf hi]
 intro g w tmps c H G I;refine h (g.sub _ _) w tmps (c.part p) ⟨⟨H.cU.bp,λo j=>?_,(by omega),λt e sz n hx=>?_,(by omega),λt x' aT a m j=>?_⟩,H.below,H.lim,H.frame,λb J K=>H.fresh b J (p.owned K)⟩ (λi y hy=>?_) I
 .show g.ob (b8 rs st.aB.length o)=S.g.ob o;rw[F o j];exact H.cU.ob o j
 .have a:t<S.st.ag.length:=(zad.1 hx).1;obtain⟨L,d,a2,a3⟩:=H.cU.ag t e sz n hx;refine⟨L,?_,a2,λe'=>?_⟩
  .rw[k (by omega),s t a];exact d
  .show g.tk (b8 ts st.ag.length t)=S.g.tk t;rw[s t a]
   grind
 .rw[k (by have:=(zad.1 m).1;exact this),s t a]at m;obtain⟨y,rows,d,a2,a3,a4,a5⟩:=H.cU.own t x' aT a m j;refine⟨y,rows,d,a2,a3,a4,λe'=>?_⟩;show g.tk (b8 ts st.ag.length t)=S.g.tk t;rw[s t a]
  grind
 .obtain⟨v,M,O⟩:=(G.sub B) i _ (GM env' i y hy);exact⟨v,M,O.down p.ag (Dn z hy)⟩
def OpC.Nf{f' base l ts MI es x r s0 s1 st' d ty pos after}(F:Enters P f')(rs tk)
  (h1:y0 env l=some es) (f:bg P f' MI s0 (QE r s1)) (hle:sw es (MI.map (EV.ren (b8 rs st.aB.length) (b8 tk st.ag.length))))
  (a:(xy rs tk s0 st && MI.all (nF s0.aB.length s0.ag.length))=true) (i:s0.aB.all (gG s0.aB.length s0.ag.length)=true)
  (k:rs.map (λr=>st.aB[r]?)=s0.aB.map λx=>some (x.ren (b8 rs st.aB.length) (b8 tk st.ag.length))) (ht:tk.map (λr=>st.ag[r]?)=s0.ag.map some)
  (hx:r.ren (b8 rs st.aB.length) (b8 tk st.ag.length)=x) (hs:kD st s1 rs tk=st') :
  OpC P base env st ⟨d,.call ⟨.value (.func f'),l.toArray,ts⟩,ty,pos,after,none⟩ x st':=by
 simp only[zam]at a;have m:=(f.frame rs tk a.1 i a.2 k ht).le hle;intro g w tmps H n;obtain⟨o,k2⟩:=uN n l es h1;refine⟨f',_,De F w rfl,(m g w base _ H ⟨by simp[o],λj x v hx hv=>k2 j x v hx (by simp_all)⟩).mono ?_⟩;rintro e w' ⟨v,p,st2,g',rfl,⟨h,rfl⟩,b,c,R⟩;rw[hx]at h;rw[hs]at c b R;exact⟨v,g',rfl,h _ _ _ _ b,c,R.toStep⟩
end move
section ld
variable {P:uG}{env:Env}{st:St}{d:Option Tmp}{ty:uE}{pos:String}{after:uD Edge}{gd:Option (Nat×Bool)}{t:uE}{x:uH}
def Xh{o off n T cs ds}(h1:(P.underlying t).map qH=some false)(hs:(P.info? t).map (·.size)=some n)(hx:bp env x=some (.ref o off))(c:st.aB[o]?=some (.row T cs))
  (hn:off+n<=cs.length) (a:(cs.drop off).take n=ds):aG P env st ⟨d,.load t x,ty,pos,after,gd⟩ (.agg ds):=λg base w tmps H e=>by
 subst a;have h:=aq e hx;generalize hv:Act.eval ⟨tmps,[]⟩ x=v at h;cases h with
 | ref _ _ p =>
  obtain⟨_,_,vs,f,dE,M⟩:=H.row o T cs c;obtain⟨hl,i⟩:=MS (g:=g) (w:=w) (n:=n) (off:=off) f dE hn;refine⟨.agg ((vs.toList.drop off).take n).toArray,.agg _ _ ?_ ?_ ?_,λw' k=>?_⟩
  .simp_all
  .grind
  .grind
  .obtain⟨inf,l,K⟩:∃inf,P.info? t=some inf/\inf.size=n:=by
    simp_all
   have F:=kb (P:=P) (w:=w') (b:=g.ob o) (off:=off) hl (λj u m=>by
    have h3:=(i j u m).1;exact(k.cell (World.block_lt_of_cell? w _ h3)).trans h3)
   simp[execOp,hv,Instr.loadAt,Instr.sureAddr,loadVar,yH h1,sizeOf,typeInfo,l,K,F]
end ld
def zT{P ops o a w K Q E}
  (h:o.guard=none) (d x) t (q:o.op=Op.call { callee:=Callee.builtin Builtin.append,args:=#[d,x],argTypes:=#[t,t] })
  (v u) (H:a.eval d=v) (hx:a.eval x=u) {v'} {w'} (b:(Builtin.append_ #[t,t] o.type #[v,u]).run P w=.ok v' w') (hK:K (a.put o.dst v') w') :
  if Region.wanted o (yielded ops a.tmps)then Oper.wp P o a w K Q else E:=by
 rw[zab (by simp[Region.wanted,h])];unfold Oper.wp execOp;simp only[q,resolve,invoke,builtin,Sem.run_bind,Sem.run_pure,Result.andThen_ok,zed,zbb,zel,H,hx,b];exact hK
def NA:List EV->List EV->Prop
 | [],[]=>True
 | x::xs,y::ys=>eB x y/\NA xs ys
 | _,_=>False
def NA.get:∀{xs ys},NA xs ys->xs.length=ys.length/\∀(i:Nat) y,ys[i]?=some y->∃x,xs[i]?=some x/\eB x y
 | [],[],_=>⟨rfl,λi y h=>by simp at h⟩
 | x::xs,y::ys,h=>by
  obtain⟨h1,h2⟩:=NA.get h.2;refine⟨by simp[h1],λi z H=>?_⟩;cases i with
  | zero=>simp at H;subst H;exact⟨x,rfl,h.1⟩
  | succ i=>simp_all
 | [],_::_,h=>h.elim
 | _::_,[],h=>h.elim
def eB.aggE{xs ys}(h:NA xs ys):eB (.agg xs) (.agg ys):=by
 intro g w st v hv;obtain⟨h1,h2⟩:=h.get;cases hv with
 | agg _ vs hs F a =>
  refine .agg _ vs (by rw[hs,h1]) F λi y u hy b=>?_
  obtain⟨x,hx,H⟩:=h2 i y hy;exact H _ _ _ _ (a i x u hx b)
section gm
variable {κ α:Type}[BEq κ][LawfulBEq κ]
def nI(sz:Nat)(row:α->List D):Nat->List (κ×List α)->List (κ×EV)
 | _,[]=>[]
 | t,p::l=>(p.1,.dA sz (p.2.map row) t)::nI sz row (t+1) l
def jM(e:uE)(sz:Nat)(l:List (κ×List α)):List ju:=l.map λp=>⟨e,sz,p.2.length,none⟩
def gev(sz:Nat)(row:α->List D)(t:Nat)(l:List (κ×List α))(k:κ):EV:=
 match dL l k with
 | some j=>.dA sz (((ak l k).getD []).map row) (t+j)
 | none=>.d b7
def NB sz(row):∀t (l:LQ (κ×LQ α)),(nI sz row t l).length=l.length
 | _,[]=>rfl
 | t,p::l=>by simp[nI,NB sz row (t+1) l]
def BU sz(row):∀t (l:LQ (κ×LQ α)) (i:Nat),(nI sz row t l)[i]?=l[i]?.map λp=>(p.1,.dA sz (p.2.map row) (t+i))
 | _,[],i=>by simp[nI]
 | t,p::l,0=>by simp[nI]
 | t,p::l,i+1=>by
  have:=BU sz row (t+1) l i;simp only[nI,List.getElem?_cons_succ,this];rw[show t+1+i=t+(i+1)from by omega]
def Az sz row(k):∀t (l:LQ (κ×LQ α)),dL (nI sz row t l) k=dL l k
 | _,[]=>rfl
 | t,p::l=>by
  have:=Az sz row k (t+1) l;unfold dL at this ⊢;rw[nI,List.findIdx?_cons,List.findIdx?_cons,this]
def Qr sz row t(l:List (κ×List α))(k):ak (nI sz row t l) k=match dL l k with
  | some j=>some (.dA sz (((ak l k).getD []).map row) (t+j))
  | none=>none:=by
 rw[kR,Az,kR l k];cases h:dL l k with
 | none=>rfl
 | some j =>
  have H:=xu h;simp only[zac,BU,zaf H,Option.map_some,zdr]
def JN sz row(q):∀t (l:LQ (κ×LQ α)),nI sz row t (l++[q])=nI sz row t l++[(q.1,.dA sz (q.2.map row) (t+l.length))]
 | t,[]=>by simp[nI]
 | t,p::l=>by
  simp only[List.cons_append,nI,JN sz row q (t+1) l,zap];rw[show t+1+l.length=t+(l.length+1)from by omega]
def NC sz row(q):∀t (l:LQ (κ×LQ α)) j,nI sz row t (l.set j q)=(nI sz row t l).set j (q.1,.dA sz (q.2.map row) (t+j))
 | t,[],j=>by simp[nI]
 | t,p::l,0=>by simp[nI]
 | t,p::l,j+1=>by
  simp only[List.set_cons_succ,nI,NC sz row q (t+1) l j];rw[show t+1+j=t+(j+1)from by omega]
def UN sz row t l(k:κ)(v:LQ α):cQ (nI sz row t l) k (.dA sz (v.map row) (t+(dL l k).getD l.length))=nI sz row t (cQ l k v):=by
 unfold cQ;rw[Az];cases h:dL l k with
 | none=>simp only[Option.getD_none,JN]
 | some j=>simp only[zdr,NC]
def ND e sz l(k:κ)(v:List α):jM e sz (cQ l k v)=match dL l k with
  | some j=>(jM e sz l).set j ⟨e,sz,v.length,none⟩
  | none=>jM e sz l++[⟨e,sz,v.length,none⟩]:=by
 unfold cQ;cases h:dL l k with
 | none=>simp[jM]
 | some j=>simp[jM,List.map_set]
def GN e sz(l:LQ (κ×LQ α)):(jM e sz l).length=l.length:=by simp[jM]
end gm
section rules
variable {P:uG}{base:Nat}{env:Env}{st:St}{d:Option Tmp}{ty:uE}{pos:String}{after:uD Edge}{gd:Option (Nat×Bool)}{t e key:uE}{x y z:uH}
 {κ α:Type} [BEq κ] [LawfulBEq κ] {sz t0:Nat} {row:α->List D}
def UO(K:sx P key κ){o l k dk inf zv}(ht:P.underlying t=some (.map key e))(hi:P.info? e=some inf)(b:inf.zero=some zv)(a:cv zv=b7)
  (hx:bp env x=some (.mp o)) (f:st.aB[o]?=some (.map (fZ K.ke (nI sz row t0 l)))) (hy:bp env y=some (.d dk)) (hk:∀lim w v,cq lim w dk v->v=K.ke k) :
  aG P env st ⟨d,.lookup t x y false,ty,pos,after,gd⟩ (gev sz row t0 l k):=by
 intro g base w tmps H i;obtain⟨v,h1,h2⟩:=qw (c:=false) (d:=d) (ty:=ty) (pos:=pos) (after:=after) (gd:=gd) K ht hi b hx f hy hk H i;refine⟨v,?_,λw' m=>by simpa using h2 w' m⟩;rw[Qr]at h1;unfold gev;cases h:dL l k with
 | none =>
  rw[h]at h1;simp only at h1 ⊢;subst h1;exact .d _ _ (a▸nC g.lim w v)
 | some j=>rw[h]at h1;exact h1
def UP{l}{k:κ}{l' T inf zv w}(ht:P.underlying t=some (.slice e))(hi:P.info? e=some inf)(a:inf.zero=some zv)(b:inf.size=sz)(c:zv.cells.size=sz)(f:inf.bytes<=100000)
  (hx:bp env x=some (gev sz row t0 l k)) (hT:st.ag=T++jM e sz l) (h0:T.length=t0) (hy:bp env y=some w) (hs:nE w=some (sz,l'.map row)) (hn:((ak l k).getD []).length+l'.length<=1000000000) :
  uL P base env st ⟨d,.call ⟨.builtin .append,#[x,y],#[t,t]⟩,ty,pos,after,gd⟩ (.dA sz (((ak l k).getD []++l').map row) (t0+(dL l k).getD l.length)) ⟨st.aB,T++jM e sz (cQ l k ((ak l k).getD []++l'))⟩:=by
 rw[ND];unfold gev at hx;cases h:dL l k with
 | none =>
  rw[h]at hx;have hl:ak l k=none:=by rw[kR,h];rfl
  rw[hl]at hn ⊢;simp only[Option.getD_none,zcs]at hn ⊢;have:=vQ (base:=base) (st:=st) (d:=d) (ty:=ty) (pos:=pos) (after:=after) (gd:=gd) (row:=row) ht hi a b c f hx hy hs (by simpa using hn);have i:st.ag.length=t0+l.length:=by rw[hT,zar,GN,h0]
  have H:(st.tok ⟨e,sz,0,none⟩).aQ st.ag.length ⟨e,sz,l'.length,none⟩=⟨st.aB,T++(jM e sz l++[⟨e,sz,l'.length,none⟩])⟩:=by
   rw[←zas,←hT];simp[St.tok,St.aQ]
  rw[H,i]at this;exact this
 | some j =>
  rw[h]at hx;have g:=xu h;have hl:ak l k=some l[j].2:=by rw[kR,h];simp[zaf g]
  rw[hl]at hx hn ⊢;simp only[zdr]at hx hn ⊢;have:=Ds (base:=base) (st:=st) (d:=d) (ty:=ty) (pos:=pos) (after:=after) (gd:=gd) (row:=row) (l:=l[j].2) ht hi a b c f hx (by
   rw[hT,zan (by omega),h0,Nat.add_sub_cancel_left];simp[jM,zaf g]) hy hs hn
  have H:st.aQ (t0+j) ⟨e,sz,(l[j].2++l').length,none⟩=⟨st.aB,T++(jM e sz l).set j ⟨e,sz,(l[j].2++l').length,none⟩⟩:=by
   unfold St.aQ;rw[hT,List.set_append_right _ _ (by omega),h0,Nat.add_sub_cancel_left]
  rw[H]at this;exact this
def K6(K:sx P key κ){o l k dk v}(ht:P.underlying t=some (.map key e))(hx:bp env x=some (.mp o))(h:st.aB[o]?=some (.map (fZ K.ke (nI sz row t0 l))))
  (hy:bp env y=some (.d dk)) (hk:∀lim w v,cq lim w dk v->v=K.ke k) (H:bp env z=some (.dA sz (v.map row) (t0+(dL l k).getD l.length))) :
  ID P base env st ⟨d,.mapUpdate t x y z,ty,pos,after,gd⟩ (st.set o (.map (fZ K.ke (nI sz row t0 (cQ l k v))))):=by
 have:=KV (base:=base) (d:=d) (ty:=ty) (pos:=pos) (after:=after) (gd:=gd) K ht hx h hy hk H;rw[UN]at this;exact this
def okG{n T ke}{l:LQ (κ×LQ α)}(h0:T.length=t0):gG n (T++jM e sz l).length (.map (fZ ke (nI sz row t0 l)))=true:=by
 unfold gG fZ;rw[zbf];intro p h;obtain⟨q,H,rfl⟩:=zck.1 h;obtain⟨i,hi⟩:=zcr.1 H;rw[BU]at hi;cases hl:l[i]? with
 | none=>rw[hl]at hi;cases hi
 | some r =>
  rw[hl]at hi;cases hi;have:=(zad.1 hl).1;simp only[nF,Nat.blt_eq,zar,GN,h0];omega
end rules
section run
variable {P:uG}{f:Ctx}{N:Nat}{S:Start}{Q:EV->St->Prop}{todo:List Item}{env env':Env}{st st':St}{κ α:Type}[BEq κ][LawfulBEq κ]
def setSame{w b o}(h:w.heap[b]?=some o):({ w with heap:=w.heap.setIfInBounds b o }:uC)=w:=by
 have:w.heap.setIfInBounds b o=w.heap:=by
  apply Array.ext_getElem?;intro i;rw[zcv];split
  .rename_i H;subst H;split
   .exact h.symm
   .rename_i a;rw[Array.getElem?_eq_none (by omega)]
  .rfl
 rw[this]
def Inv.mapLe{g base w o es es'}(h:Inv g base w st)(b:st.aB[o]?=some (.map es))(hl:es.length=es'.length)
  (hle:∀(i:Nat) p q,es[i]?=some p->es'[i]?=some q->p.1=q.1/\eB p.2 q.2):Inv g base w (st.set o (.map es'))/\Step base g w st g w (st.set o (.map es')):=by
 obtain⟨b1,d,c,b2,n,e,f,j⟩:=h.map o es b;have:=h.Qh (es':=es') b (ms':=d) (clock':=c) (by omega) (λi k x m H a=>by
  have hi:i<es.length:=by rw[hl];exact(zad.1 H).1
  have h1:=zaf hi;obtain⟨l,a2⟩:=hle i _ _ h1 H;obtain⟨c1,c2⟩:=e i es[i].1 es[i].2 m h1 a;exact⟨c1.trans l,a2 _ _ _ _ c2⟩) f j
 rw[setSame b2]at this;exact this
def aE.gfreeze{e sz t0:Nat}{row} o{T}{l:LQ (κ×LQ α)}{ke}(k:st.aB[o]?=some (.map (fZ ke (nI sz row t0 l))))(hT:st.ag=T++jM e sz l)(h0:T.length=t0)
  (m:DE env env'=some env') (hs:st'=⟨st.aB.set o (.map (iP ke (λx=>au sz row x) l)),T⟩) (z:(BA st'.aB.length st'.ag.length env' && st'.aB.all (gG st'.aB.length st'.ag.length))=true)
  (c:S.st.aB.length<=st.aB.length) (d:S.st.ag.length<=T.length) (h:aE P f N S Q todo env' st'):aE P f N S Q todo env st:=by
 subst hs;intro g w tmps H n s t;obtain⟨h1,h2⟩:=H.mapLe (es':=iP ke (λx=>au sz row x) l) k (by simp[fZ,iP,NB]) (λi p q a j=>by
  simp only[fZ,iP,zau,BU]at a j;cases hl:l[i]? with
  | none=>rw[hl]at a;cases a
  | some r=>rw[hl]at a j;cases a;cases j;exact⟨rfl,.dA _ _ _⟩)
 have b:(st.set o (.map (iP ke (λx=>au sz row x) l))).aB.length=st.aB.length:=by simp[St.set]
 refine aE.to (st:=st.set o (.map (iP ke (λx=>au sz row x) l))) (st':=⟨st.aB.set o (.map (iP ke (λx=>au sz row x) l)),T⟩) st.aB.length T.length (uV m) ?_ ?_ ?_ ?_ ?_ c d h g w tmps h1 (n.step h2) (s.mono h2.cU) t
 .show(st.aB.set o _).take st.aB.length=st.aB.set o _;rw[zbj (by simp)]
 .show st.ag.take T.length=T;rw[hT];simp
 .rw[b];exact Nat.ble_self_eq_true _
 .show Nat.ble T.length st.ag.length=true;rw[hT];exact zfy (by simp)
 .simpa[List.length_set] using z
def aE.tG{s0} n(h:aE P f N S Q todo env' st')(a:DE env env'=some env')(b:st.aB.take n=st'.aB)(ht:st.ag=st'.ag)(hn:Nat.ble n st.aB.length=true)
  (z:(BA n st'.ag.length env' && st'.aB.all (gG n st'.ag.length))=true) (H:S.st=s0) (c:Nat.ble s0.aB.length n=true) (E:Nat.ble s0.ag.length st'.ag.length=true):aE P f N S Q todo env st :=
 .to n st'.ag.length (uV a) b (by rw[ht];simp) hn (by rw[ht];exact Nat.ble_self_eq_true _) z (by rw[H];exact zae c) (by rw[H];exact zae E) h
end run
def mr(a b:List uA):= Op.bytesLess a b
section strings
variable {P:uG}{env:Env}{st:St}{d:Option Tmp}{ty:uE}{pos:String}{after:uD Edge}{gd:Option (Nat×Bool)}{t t2:uE}{x y:uH}{a b:List uA}(hx:bp env x=some (.d (cS a)))(hy:bp env y=some (.d (cS b)))
include hx hy
theorem Xi:aG P env st ⟨d,.binOp .lss t x y t2,ty,pos,after,gd⟩ (.d (cB (mr a b))):=mG λg w tmps w' h=>by
 simp[execOp,(aq h hx).aO,(aq h hy).aO,eqGuard,binOp,Op.stringOp,mr]
end strings
def goH P(base:Nat) T(N n:Nat)(cf:Cf)(env:Env)(st:St)(hs:List (Hint P T)):= jL env λenv=>match st with
 | ⟨os,ts⟩=>jL os λos=>go P base T N n cf env ⟨os,ts⟩ hs ⟨[],[],[]⟩
def goH_eq{P base T N n cf env st hs}:goH P base T N n cf env st hs=go P base T N n cf env st hs ⟨[],[],[]⟩:=by
 unfold goH;simp only[lP]
def DF{P f N S Q T}(hT:T.Ok P)(hm:P.follows .mixedOrders=true){n cf env st hs out}(h:goH P S.base T N n cf env st hs=some out)(H:out.ps.Ok):
  UH P f N S Q out.cf out.env out.st->UH P f N S Q cf env st:=(go_sound hT hm n cf env st hs _ out (goH_eq▸h) H).2
def vN.nil0(sz):vN (.ex (.slice none 0 0)) (.e0 sz):=λ_ _ _ h=>by cases h;exact .e0 sz none (.inl rfl)
section fwp
variable {P:uG}{R:Ending->uC->Prop}{k:List Item}{tmps:uD uB}{w:uC}
def bT.beginRound{f ds l w'}(H:(Instr.beginRound l).run P w=.ok () w')(h:bT P ⟨f,ds,some l,false⟩ R k tmps w'):bT P ⟨f,ds,some l,false⟩ R (.beginRound::k) tmps w:=
 bT.step (λ_=>stepR_beginRound rfl H) h
def bT.round{f ops i rest o l f' tm assign body w'}
  (j:ops[i]?=some o) (hw:Region.wanted o (yielded ops tmps)=true) (m:(execOp (Act.eval ⟨tmps,[]⟩) o).run P w=.ok (.round l f' tm assign body) w')
  (h:bT P ⟨f',[],some l,false⟩ (λ_ n=>∃c,(Instr.endRound l none).run P n=.ok (.bool true) c/\bT P f R (.inRegion ops rest::k) (Act.put ⟨tmps,[]⟩ o.dst (.bool true)).tmps c) [.code assign,.beginRound,.code body] tm w') :
  bT P f R (.inRegion ops (i::rest)::k) tmps w:=by
 intro cs;have p:=stepGR_op (P:=P) (b:=bf f) (a:=⟨tmps,f.ds⟩) (k:=k) (cs:=cs) (w:=w) (rest:=rest) j hw;rw[Bl,Bj m (by simp)]at p;have q:∀v,((bf f).atR ⟨tmps,f.ds⟩ (.inRegion ops (i::rest)::k)).finish v=(bf f).atR (Act.put ⟨tmps,f.ds⟩ o.dst v) (.inRegion ops rest::k):=by
  intro v;rw[Frame.finish_atR,j];rfl
 obtain⟨e,n,fr,⟨c,r,s⟩,F,H⟩:=h ((bf f).atR ⟨tmps,f.ds⟩ (.inRegion ops (i::rest)::k)::cs);obtain⟨rfl,t,rfl⟩:=H;have d:Frame.round l f' tm assign body .normal=(bf ⟨f',[],some l,false⟩).atR ⟨tm,[]⟩ [.code assign,.beginRound,.code body]:=by simp[Frame.round,Frame.atR,bf]
 have u:Go.step P (lone ((bf f).atR ⟨tmps,f.ds⟩ (.inRegion ops (i::rest)::k)) cs w) =
   .next (lone ((bf ⟨f',[],some l,false⟩).atR ⟨tm,[]⟩ [.code assign,.beginRound,.code body]) ((bf f).atR ⟨tmps,f.ds⟩ (.inRegion ops (i::rest)::k)::cs) w'):=by
  rw[←d];exact step_lone_go (by rw[p];simp[stepG.apply,m,Frame.atR])
 obtain⟨e,x,g,y,z,h1⟩:=s cs;refine⟨e,x,g,y,Comes.of_steps (.head u (Steps.trans F (.one ?_))) z,h1⟩;rw[←put_eq,←q];exact stepR_round_end rfl rfl r
def bT.rangeFunc{f g ps assign body it vs}(n:Act.eval ⟨tmps,[]⟩ g=.func (.func it) #[] vs)(F:Enters P it)
  (h:Calls P it (#[.func (.yield (w.heap.size+1)) #[] #[]]++vs) ((w.alloc (.deferred (some []))).alloc (.loop { state:=.ready,pending:=none,fn:=f,tmps:=tmps,params:=ps,assign,body,defers:=w.heap.size }))
   λe l=>(∃v,e=.returned v)/\∃i,(Instr.endLoop (w.heap.size+1)).run P l=.ok none i/\bT P ⟨f,[{ target:=.collected w.heap.size,args:=#[] }],none,false⟩ R k tmps i) :
  bT P (.of f) R (.code (.rangeFunc g ps assign body)::k) tmps w:=by
 intro cs;have m:=run_enterLoop_outer (P:=P) (w:=w) f tmps ps assign body;generalize x:(w.alloc (.deferred (some []))).alloc (.loop { state:=.ready,pending:=none,fn:=f,tmps:=tmps,params:=ps,assign,body,defers:=w.heap.size })=W1 at m h;have H:(resolve (Act.eval ⟨tmps,[]⟩) (rangeCall g (w.heap.size+1)) 0).run P W1=.ok { target:=.fn (.func it) vs,args:=#[.func (.yield (w.heap.size+1)) #[] #[]] } W1:=by
  simp only[rangeCall,resolve];rw[n];simp[Deferred.ofValue,Act.eval]
 have c:(invoke (.fn (.func it) vs) #[.func (.yield (w.heap.size+1)) #[] #[]]).run P W1=.ok (.enter it (#[.func (.yield (w.heap.size+1)) #[] #[]]++vs)) W1:=by
  simp only[invoke];exact ov F _ _
 have o:=stepR_rangeFunc (P:=P) (b:=bf (.of f)) (a:=⟨tmps,[]⟩) (k:=k) (cs:=cs) (w:=w) m H c;obtain⟨e,l,fr,⟨⟨v,rfl⟩,i,d,p⟩,q,_,r⟩:=h ((bf (.of f)).atR ⟨tmps,[{ target:=.collected w.heap.size,args:=#[] }]⟩ (.inRangeFunc (w.heap.size+1)::k)::cs);obtain⟨e,s,j,t,u,h1⟩:=p cs;refine⟨e,s,j,t,Comes.of_steps (.head o (Steps.trans q (.head (step_leave_returned r) (.one ?_)))) u,h1⟩;rw[finish_atR_inRangeFunc];exact stepR_endRangeFunc d
def bT.retM{f D fn v w'}(h:P.funcs[f]?=some fn)(ht:(Instr.takeDeferred D).run P w=.ok [] w')(H:(results fn tmps).run P w'=.ok v w')(a:R (.returned v) w'):
  bT P ⟨f,[{ target:=.collected D,args:=#[] }],none,false⟩ R (.code .ret::k) tmps w :=
 λcs=>⟨.returned v,w',_,a,.head (stepR_ret rfl) (.one (step_collected (by simp) rfl rfl ht)),rfl,rfl,rfl,rfl,fn,h,H⟩
end fwp
section inv
variable {P:uG}{base:Nat}{g:eI}{w:uC}{st:St}
def Inv.K7(hinv:Inv g base w st){o y}(H:st.aB[o]?=some (.raw y))(h):Inv g base (w.putObj (g.ob o) h) (st.set o (.raw h))/\Step base g w st g (w.putObj (g.ob o) h) (st.set o (.raw h)):=by
 obtain⟨a,hl,I⟩:=hinv.raw o _ H;exact hinv.setBlock (o:=o) (x:=.raw h) (w':=w.putObj (g.ob o) h)
   ⟨_,H,by simp⟩ hl (by simp_all) (λb i=>World.putObj_heap_other i) rfl rfl rfl (λ_ K v e=>by cases e) (λ_ es e=>by cases e)
   (λy e=>by
    cases e;exact World.putObj_heap_same (zbe.1 I).1)
end inv
section run
variable {P:uG}{f:FuncId}{N:Nat}{S:Start}{Q:EV->St->Prop}{k:List Item}{env:Env}{st:St}
def rk.obAt{S g w st}(h:rk S g w st){o l}(H:S.g.ob o=l)(b:o<S.st.aB.length):g.ob o=l:=(h.cU.ob o b).trans H
def aE.beginRound{l o r}(c:S.g.ob o=l)(d:o<S.st.aB.length)(a:st.aB[o]?=some (.raw (.loop r)))(e:r.state=.ready)
  (h:aE P ⟨f,[],some l,false⟩ N S Q k env (st.set o (.raw (.loop { r with state:=.busy })))):aE P ⟨f,[],some l,false⟩ N S Q (.beginRound::k) env st:=by
 intro g w tmps H b i j;have z:=b.obAt c d;obtain⟨_,_,I⟩:=H.raw o _ a;obtain⟨h1,h2⟩:=H.K7 a (.loop { r with state:=.busy });rw[z]at I h1 h2;exact bT.beginRound (run_beginRound I e) (h g _ tmps h1 (b.step h2) (i.mono h2.cU) j)
def aE.Bm{l}(H:Q (.d (cB true)) st):aE P ⟨f,[],some l,false⟩ N S Q [] env st:=
 λg w tmps h a b c=>bT.Bm ⟨_,_,st,g,rfl,H,.d _ _ (.ex _),h,a⟩
def aE.rangeFunc{i it c ps assign body}{st':St}(hx:lookup i env=some (.xl it c))(M:Enters P it)(hlen:st'.aB.length=st.aB.length)
  (X:∀S1 tm (D l),S1.base=S.base->Inv S1.g S1.base S1.w S1.st->tm.size=N->cT S1.g S1.w S1.st env tm->S1.g.ob (st.aB.length+1)=l ->
   S1.st=⟨st.aB++[.raw (.deferred (some [])),.raw (.loop { state:=.ready,pending:=none,fn:=f,tmps:=tm,params:=ps,assign,body,defers:=D })],st.ag⟩ ->
   ∀vs,th S1.g S1.w S1.st (.d (.ex (.func (.yield l) #[] #[]))::c) vs ->
   Calls P it vs S1.w (mh S1 λ_ s=>s=⟨st'.aB++[.raw (.deferred (some [])),.raw (.loop { state:=.ready,pending:=none,fn:=f,tmps:=tm,params:=ps,assign,body,defers:=D })],st'.ag⟩))
  (hk:∀S1 D x,S1.base=S.base->S1.g.ob st.aB.length=D->S1.st=⟨st'.aB++[.raw (.deferred (some [])),.raw x],st'.ag⟩ ->
   aE P ⟨f,[{ target:=.collected D,args:=#[] }],none,false⟩ N S1 Q k env ⟨st'.aB++[.raw (.deferred (some [])),.raw x],st'.ag⟩) :
  aE P (.of f) N S Q (.code (.rangeFunc (.tmp i) ps assign body)::k) env st:=by
 intro g w tmps n O t I;obtain⟨v,z,A⟩:=t i _ hx;cases A with
 | xl _ _ vs xb R =>
 have T:Act.eval ⟨tmps,[]⟩ (.tmp i)=.func (.func it) #[] vs:=by simp[Act.eval,zba,z]
 obtain⟨g1,U,s1,B⟩:=n.newObj (.raw (.deferred (some []))) (.deferred (some [])) (λV W e=>by cases e) (λes e=>by cases e) (λy e=>by grind);obtain⟨g2,i2,s2,C⟩:=U.newObj (.raw (.loop { state:=.ready,pending:=none,fn:=f,tmps:=tmps,params:=ps,assign,body,defers:=w.heap.size })) (.loop { state:=.ready,pending:=none,fn:=f,tmps:=tmps,params:=ps,assign,body,defers:=w.heap.size }) (λV W e=>by cases e) (λes e=>by cases e) (λy e=>by grind);have Y:(st.add (.raw (.deferred (some [])))).add (.raw (.loop { state:=.ready,pending:=none,fn:=f,tmps:=tmps,params:=ps,assign,body,defers:=w.heap.size })) =
   ⟨st.aB++[.raw (.deferred (some [])),.raw (.loop { state:=.ready,pending:=none,fn:=f,tmps:=tmps,params:=ps,assign,body,defers:=w.heap.size })],st.ag⟩:=by simp[St.add]
 rw[Y]at i2 s2;have J:g2.ob (st.aB.length+1)=w.heap.size+1:=by
  have:(st.add (.raw (.deferred (some [])))).aB.length=st.aB.length+1:=by simp[St.add]
  rw[←this,C];simp_all
 have h:=s1.trans s2;have E:g2.ob st.aB.length=w.heap.size:=by
  have:st.aB.length<(st.add (.raw (.deferred (some [])))).aB.length:=by simp[St.add]
  rw[s2.cU.ob _ this,B]
 have F:=t.mono h.cU;have Z:th g2 ((w.alloc (.deferred (some []))).alloc (.loop { state:=.ready,pending:=none,fn:=f,tmps:=tmps,params:=ps,assign,body,defers:=w.heap.size })) ⟨st.aB++[.raw (.deferred (some [])),.raw (.loop { state:=.ready,pending:=none,fn:=f,tmps:=tmps,params:=ps,assign,body,defers:=w.heap.size })],st.ag⟩ (.d (.ex (.func (.yield (w.heap.size+1)) #[] #[]))::c) (#[.func (.yield (w.heap.size+1)) #[] #[]]++vs):=by
  refine⟨by grind,λj y u hy q=>?_⟩;cases j with
  | zero =>
   rw[zdp (by simp)]at q;simp at hy q;subst hy;subst q;exact .d _ _ (.ex _)
  | succ j =>
   simp only[List.getElem?_cons_succ]at hy;rw[Array.getElem?_append_right (by simp)]at q;exact(R j y u hy (by simp_all)).mono h.cU
 refine bT.rangeFunc T M ?_;refine(X ⟨g2,_,_,S.base⟩ tmps w.heap.size (w.heap.size+1) rfl i2 I F J rfl _ Z).mono ?_;rintro e w2 ⟨v,r,s,o,rfl,rfl,hr,H,b⟩;refine⟨⟨v,rfl⟩,?_⟩;have p:(⟨st'.aB++[.raw (.deferred (some [])),.raw (.loop { state:=.ready,pending:=none,fn:=f,tmps:=tmps,params:=ps,assign,body,defers:=w.heap.size })],st'.ag⟩:St).aB[st.aB.length+1]?=some (.raw (.loop { state:=.ready,pending:=none,fn:=f,tmps:=tmps,params:=ps,assign,body,defers:=w.heap.size })):=by
  rw[zan (by omega)]
  grind
 have a:o.ob (st.aB.length+1)=w.heap.size+1:=(b.cU.ob _ (by simp)).trans J;have m:o.ob st.aB.length=w.heap.size:=(b.cU.ob _ (by simp)).trans E;obtain⟨_,_,K⟩:=H.raw _ _ p;rw[a]at K;obtain⟨q1,q2⟩:=H.K7 p (.loop { state:=.exhausted,pending:=none,fn:=f,tmps:=tmps,params:=ps,assign,body,defers:=w.heap.size });rw[a]at q1 q2;refine⟨_,run_endLoop K (by simp),?_⟩;have rp:(⟨st'.aB++[.raw (.deferred (some [])),.raw (.loop { state:=.ready,pending:=none,fn:=f,tmps:=tmps,params:=ps,assign,body,defers:=w.heap.size })],st'.ag⟩:St).set (st.aB.length+1) (.raw (.loop { state:=.exhausted,pending:=none,fn:=f,tmps:=tmps,params:=ps,assign,body,defers:=w.heap.size })) =
   ⟨st'.aB++[.raw (.deferred (some [])),.raw (.loop { state:=.exhausted,pending:=none,fn:=f,tmps:=tmps,params:=ps,assign,body,defers:=w.heap.size })],st'.ag⟩:=by
  unfold St.set;simp_all
 rw[rp]at q1 q2;have L:=(h.trans b.toStep).trans q2;refine(hk ⟨o,_,_,S.base⟩ w.heap.size _ rfl m rfl o _ tmps q1 (rk.refl ⟨o,_,_,S.base⟩) (t.mono L.cU) I).mono ?_;rintro e w4 ⟨v4,r4,G,g4,e1,e2,e3,e4,e5⟩;exact⟨v4,r4,G,g4,e1,e2,e3,e4,(O.step L).step e5.toStep⟩
def aE.retM{fn D o} xs es(m:P.funcs[f]?=some fn)(n:fn.results=xs.toArray)(p:S.g.ob o=D)(q:o<S.st.aB.length)(d:st.aB[o]?=some (.raw (.deferred (some []))))
  (h:Gs P env (st.set o (.raw (.deferred none))) xs es) (r:Q (qt es) (st.set o (.raw (.deferred none)))):aE P ⟨f,[{ target:=.collected D,args:=#[] }],none,false⟩ N S Q (.code .ret::k) env st:=by
 intro g w tmps hi j H hn;have z:=j.obAt p q;obtain⟨_,_,I⟩:=hi.raw o _ d;obtain⟨q1,q2⟩:=hi.K7 d (.deferred none);rw[z]at I q1 q2;have c:=H.mono q2.cU;obtain⟨vs,h1,h2,h3⟩:=KK q1 c h;have s:(results fn tmps).run P (w.putObj D (.deferred none))=.ok (if h:vs.toArray.size=1 then vs.toArray[0]else .tuple vs.toArray) (w.putObj D (.deferred none)):=by
  have W:(results fn tmps)=(do let vs ←fn.results.mapM (wO tmps);pure (if h:vs.size=1 then vs[0]else .tuple vs)):=by
   unfold results;congr 1
  rw[W,n,zev];simp_all
 refine bT.retM m (run_takeDeferred I) s ⟨_,qt es,_,g,rfl,r,?_,q1,j.step q2⟩;by_cases hl:vs.toArray.size=1
 .rw[dif_pos hl]
  match vs,es,h2,hl,h3 with
  | [v],[e],_,_,h3=>exact h3 0 e v rfl rfl
  | [],_,_,hl,_=>simp at hl
  | _::_::_,_,_,hl,_=>simp at hl
 .rw[dif_neg hl]
  match vs,es,h2,hl,h3 with
  | [v],_,_,hl,_=>simp at hl
  | [],[],_,_,_=>exact .dp _ _ rfl (by simp)
  | a::b::l,t::b'::l',h2,_,h3=>exact .dp _ _ (by omega) (λi e v H hv=>h3 i e v H (by simp_all))
end run
def Calls.enterS{P f fn c}{N:Nat}{S Q args vs}(H:P.funcs[f]?=some fn)(a:fn.body=some c)(b:fn.ntmps=N)(hl:Nat.ble args.length N=true)
  (hi:Inv S.g S.base S.w S.st) (ha:th S.g S.w S.st args vs) (h:aE P (.of f) N S Q [.code c] (vI 0 args) S.st):Calls P f vs S.w (mh S Q):=by
 have K:=zae hl;have dE:=ha.1;refine bT.calls H a ?_;refine h S.g S.w _ hi (rk.refl S) ?_ (by simp_all);intro j y hy;obtain⟨k,rfl,hk⟩:=tT args 0 j y hy;have M:=(zad.1 hk).1;refine⟨vs[k]'(by omega),?_,ha.2 k y _ hk (by simp_all)⟩;rw[zbh,zdp (by omega)];simp_all
section yield
variable {P:uG}{f:Ctx}{N:Nat}{S:Start}{Q:EV->St->Prop}{k:List Item}{env:Env}{st:St}{ops rest:List Oper}{ty:uE}{pos:String}{after:uD Edge}
def bO.yieldG{b d j}{t x y:Tmp}{c}{o l p:Nat}{r a ts st'}(hj:ops[j]?.bind (·.dst)=some t)(hl:lookup t env=some c)(W:ED c true=some b)(D:b=true)(X:eE N (some d)=true)
  (hx:lookup x env=some (.gd b (.d (.ex (.func (.yield l) #[] #[]))))) (hy:lookup y env=some (.gd b (.d a))) (M:st.aB[o]?=some (.raw (.loop r))) (Y:o<S.st.aB.length) (Z:S.g.ob o=l) (O:r.params=#[p])
  (Qs:∀H:Start,tR S.g S.w S.st H.g H.w H.st->H.base=S.base->H.st=st->Inv H.g H.base H.w H.st->∀v,cq H.g.lim H.w a v ->
   bT P ⟨r.fn,[],some l,false⟩ (mh H λ_ s=>∃E,s.aB[o]?=some (.raw (.loop E))/\st'=s.set o (.raw (.loop { E with state:=.ready,pending:=none }))) [.code r.assign,.beginRound,.code r.body] (r.tmps.setIfInBounds p v) H.w)
  (hk:bO P f N S Q ops rest k ((d,.gd b (.d (cB true)))::env) st') :
  bO P f N S Q ops (⟨some d,.call ⟨.value (.tmp x),#[.tmp y],ts⟩,ty,pos,after,some (j,true)⟩::rest) k env st:=by
 subst D;intro i hi g w tmps n F C hn;have jx:ops.toArray[i]?=some ⟨some d,.call ⟨.value (.tmp x),#[.tmp y],ts⟩,ty,pos,after,some (j,true)⟩:=by simpa using (hi 0).symm
 obtain⟨v,hv,hr⟩:=C t c hl;have hw:Region.wanted ⟨some d,.call ⟨.value (.tmp x),#[.tmp y],ts⟩,ty,pos,after,some (j,true)⟩ (yielded ops.toArray tmps)=true:=by
  have G:=rO W hr;have tU:((ops.toArray)[j]?).bind (·.dst)=some t:=by simp_all
  simp only[Region.wanted,yielded,tU,zac,hv];revert G;cases v<;>exact λh=>h
 rw[zap,gi];have hi':∀j:Nat,rest[j]?=ops[i+1+j]?:=λj=>by have:=hi (j+1);grind
 obtain⟨vx,I,J⟩:=C x _ hx;obtain⟨u,dD,fD⟩:=C y _ hy;have K:vx=.func (.yield l) #[] #[]:=by
  cases J with
  | gd _ _ _ _ h=>cases h rfl with|d _ _ h=>exact kC h
 have L:cq g.lim w a u:=by
  cases fD with
  | gd _ _ _ _ h=>cases h rfl with|d _ _ h=>exact h
 subst K;have R:=F.obAt Z Y;obtain⟨_,_,T⟩:=n.raw o _ M;rw[R]at T;have vE:=run_yield (P:=P) (args:=#[u]) T (by rw[O];rfl);have bK:(execOp (Act.eval ⟨tmps,[]⟩) ⟨some d,.call ⟨.value (.tmp x),#[.tmp y],ts⟩,ty,pos,after,some (j,true)⟩).run P w=.ok (.round l r.fn (r.tmps.setIfInBounds p u) r.assign r.body) w:=by
  have e1:Act.eval ⟨tmps,[]⟩ (.tmp x)=.func (.yield l) #[] #[]:=by simp[Act.eval,zba,I]
  have e2:Act.eval ⟨tmps,[]⟩ (.tmp y)=u:=by simp[Act.eval,zba,dD]
  rw[O]at vE;simp only[execOp,resolve];rw[e1];simp only[Deferred.ofValue,Sem.run_bind,Sem.run_pure,Result.andThen_ok,invoke];simp_all
 refine bT.round jx hw bK ?_;refine(Qs ⟨g,w,st,S.base⟩ F.cU rfl rfl n u L).mono ?_;rintro e w2 ⟨v2,E,s,U,rfl,⟨rr,z,WR⟩,Qc,m,A⟩;obtain⟨_,_,q⟩:=m.raw o _ z;obtain⟨q1,q2⟩:=m.K7 z (.loop { rr with state:=.ready,pending:=none });have B:U.ob o=l:=(A.cU.ob o (zad.1 M).1).trans R;rw[B]at q q1 q2;rw[←WR]at q1 q2;refine⟨_,run_endRound none q,?_⟩;have V:=A.toStep.trans q2;subst hn;exact hk (i+1) hi' U _ _ q1 (F.step V) (pq (d:=some d) (C.mono V.cU) X (.gd _ _ _ (λh=>by cases h) (λ_=>.d _ _ (.ex _)))) fX
end yield
section frames
variable {P:uG}{f:Ctx}{R:Ending->uC->Prop}{k:List Item}{tmps:uD uB}{w:uC}{ops:uD Oper}{i:Nat}{rest:List Nat}{o:Oper}
def bT.retD{fn}(I:f.ro=none)(Q:f.dk=false)(b:P.funcs[f.fn]?=some fn)(h:Leaves P fn tmps R f.ds .returning w):bT P f R (.code .ret::k) tmps w:=by
 intro cs;have hk:(bf f).kind=.normal:=by simp[bf,Q]
 obtain⟨e,w',H,c,hs,a,hl⟩:=leaves_steps (R:=R) f.ds .returning w { (bf f).atR ⟨tmps,f.ds⟩ (.code .ret::k)with mode:=.returning } cs rfl rfl rfl b hk h;exact⟨e,w',H,c,Comes.of_steps (.one (stepR_ret I)) hs,by unfold Ctx.fin;simp only[I,Q];exact⟨a,hl⟩⟩
def bT.retDk{f fn v}(h:P.funcs[f]?=some fn)(H:(results fn tmps).run P w=.ok v w)(a:R (.returned v) w):bT P ⟨f,[],none,true⟩ R (.code .ret::k) tmps w:=
 λcs=>⟨.returned v,w,_,a,.one (stepR_ret rfl),rfl,rfl,rfl,fn,h,H⟩
def bT.finDk{f fn v}(h:P.funcs[f]?=some fn)(H:(results fn tmps).run P w=.ok v w)(a:R (.returned v) w):bT P ⟨f,[],none,true⟩ R [] tmps w:=
 λcs=>⟨.returned v,w,_,a,.one (stepR_end rfl),rfl,rfl,rfl,fn,h,H⟩
def bT.callsD{f fn c args u}(a:P.funcs[f]?=some fn)(b:fn.body=some c)
  (h:bT P ⟨f,[],none,true⟩ R [.code c] (args++Array.replicate (fn.ntmps-args.size) undef) w):CallsD P f args u w λe d w'=>d=u/\R e w':=by
 intro H cs j;have v:Frame.enter P f args .deferred=(bf ⟨f,[],none,true⟩).atR ⟨args++Array.replicate (fn.ntmps-args.size) undef,[]⟩ [.code c]:=by
  simp[Frame.enter,Frame.atR,a,b,bf]
 obtain⟨e,w',fr,g,i,h1,h2⟩:=h (H::cs);refine⟨e,u,w',fr,⟨rfl,g⟩,?_,h1,h2⟩;have:({ H with mode:=u }:Frame)=H:=by cases H;simp_all
 rw[v,this];exact i
end frames
def kE(env:Env):List Nat->Env->Env
 | [],t=>t
 | i::l,t=>match lookup i env with
  | some x=>(i,x)::kE env l t
  | none=>kE env l t
def Qu{env t:Env}(h:DE env t=some t):∀l,dG env (kE env l t)
 | []=>uV h
 | i::l=>by
  unfold kE;split
  .rename_i x hx;exact .cons hx (.aW _) (Qu h l)
  .exact Qu h l
section words
variable {α β:Type}{J J' p:Prop}
def aN{q}[Decidable q]{x}{r:α}(h:q->x=some r->J):ck q x=some r->J:=λH=>(iS H).elim h
def bA{o}{k:β->LX α}{r}(h:∀y,o=some y->k y=some r->J):o.bind k=some r->J:=λH=>let⟨y,a,b⟩:=P5 H;h y a b
def lf(r:J'->J)(k:p->J'):p->J:=λh=>r (k h)
def wh(h:p)(k:p->J):J:=k h
def Kq{S R:Type}(r:R)(P:S->Prop):S ⊕ R->Prop
 | .inl s=>P s
 | .inr x=>x=r
def GO{S R r P}{q:S ⊕ R}{x}(h:Kq r P q)(k:x=some r->J):x.map Sum.inr=some q->J:=λH=>by
 obtain⟨y,a,rfl⟩:=Uu H;cases h;exact k a
end words
def KR(st:St)(x:EV)(st':St)(rs ts:List Nat)(e:EV)(s:St):= xy rs ts st' s=true/\st'.aB.all (gG st'.aB.length st'.ag.length)=true/\nF st'.aB.length st'.ag.length x=true/\(Nat.ble st.aB.length rs.length && Nat.ble st.ag.length ts.length)=true /\
   rs.take st.aB.length=List.range st.aB.length/\ts.take st.ag.length=List.range st.ag.length /\
   rs.map (λr=>s.aB[r]?)=st'.aB.map (λy=>some (y.ren (b8 rs s.aB.length) (b8 ts s.ag.length)))/\ts.map (λr=>s.ag[r]?)=st'.ag.map some /\
   eB e (x.ren (b8 rs s.aB.length) (b8 ts s.ag.length))
def KQ(st:St)(x:EV)(st':St)(e:EV)(s:St):= ∃(rs ts:List Nat),KR st x st' rs ts e s
abbrev rE{τ:Type}(E:τ->D)(r:τ):= (·=E r)
section run
variable {P:uG}{f:FuncId}{fn:Func}{c:Code}{N:Nat}{p:Prop}
def aR.S{args q}{xs:LQ ResultVar}(a:P.funcs[f]?=some fn)(b:fn.body=some c)(e:fn.ntmps=N)(g:fn.results=xs.toArray)(hl:Nat.ble args.length N=true)
  (h:∀S:Start,S.st=⟨[],[]⟩->P.funcs[f]?=some fn/\fn.results=xs.toArray->p->aE P (.of f) N S (QD q) [.code c] (vI 0 (args.map EV.d)) ⟨[],[]⟩):p->aR P f args q :=
 λH=>.enter' a b e hl λS i=>h S i ⟨a,g⟩ H
def bg.S{args st st' x}{xs:LQ ResultVar}(a:P.funcs[f]?=some fn)(b:fn.body=some c)(d:fn.ntmps=N)(e:fn.results=xs.toArray)(hl:Nat.ble args.length N=true)
  (h:∀S:Start,S.st=st->P.funcs[f]?=some fn/\fn.results=xs.toArray->p->aE P (.of f) N S (KQ st x st') [.code c] (vI 0 args) st):p->bg P f args st (QE x st') :=
 λH=>.Dw (.enter a b d hl λS g=>h S g ⟨a,e⟩ H)
end run
section go
variable {P:uG}{f:Ctx}{N:Nat}{S:Start}{Q:EV->St->Prop}{k todo:List Item}{env:Env}{st:St}{p:Prop}
def aE.I{α:Type}{b d e h}{r:α}{c x y}(a:bp env c=some (.d (.ex (.bool b))))
  (ht:e=some r->aE P f N S Q (.code x::k) env st) (g:h=some r->aE P f N S Q (.code y::k) env st):@_root_.ite _ (b=true) d e h=some r->aE P f N S Q (.code (.cond c x y)::k) env st:=λH=>.ite H a ht g
def aE.zi{σ:Type}{I:σ->Prop}{E:σ->Env}{T:σ->St}(H:∀i,I i->aE P f N S Q todo (E i) (T i)) i(hs:st=T i:=by rfl)(a:DE env (E i)=some (E i):=by rfl):I i->aE P f N S Q todo env st:=
 λh=>.z (H i h) hs a
def aE.zl{σ R r}{E:σ->Env}{T:σ->St}{s}{q:σ ⊕ R}(h:Kq r (λj=>aE P f N S Q todo (E j) (T j)) q)(hs:st=T s:=by rfl)(a:DE env (E s)=some (E s):=by rfl):some (.inl s)=some q->aE P f N S Q todo env st:=λH=>by
 cases H;exact .z h hs a
def aE.zm{σ R σ' r}{E:σ->Env}{T:σ->St}{s q}{a:σ' ⊕ σ ⊕ R}{b}(h:Kq q b a)(c:Kq r (λj=>aE P f N S Q todo (E j) (T j)) q)(hs:st=T s:=by rfl)(d:DE env (E s)=some (E s):=by rfl):some (.inr (.inl s))=some a->aE P f N S Q todo env st:=λH=>by
 cases H;cases h;exact .z c hs d
def aE.tl{σ R r}{E:σ->Env}{T:σ->St}{s}{q:σ ⊕ R}{s0}(n m)(h:Kq r (λj=>aE P f N S Q todo (E j) (T j)) q)(a:S.st=s0)(b:DE env (E s)=some (E s):=by rfl)(c:st.aB.take n=(T s).aB:=by rfl)(ht:st.ag.take m=(T s).ag:=by rfl)(hn:(Nat.ble n st.aB.length && Nat.ble m st.ag.length)=true:=by rfl)
  (z:(BA n m (E s) && (T s).aB.all (gG n m))=true:=by first|rfl|(refine Dx rfl ?_;repeat' first|rfl|exact ij|exact okArr|refine bV ?_ ?_)) (d:(Nat.ble s0.aB.length n && Nat.ble s0.ag.length m)=true:=by rfl):some (.inl s)=some q->aE P f N S Q todo env st:=λH=>by
 cases H;exact .t n m h b c ht hn z a d
def aE.lp{c σ R F s0}{r:R}(E:σ->Env)(T:σ->St)(a:dG env (E s0))(hT:st=T s0)
  (step:∀s q,Kq r (λj=>aE P f N S Q (.inLoop c::k) (E j) (T j)) q->F s=some q->aE P f N S Q (.code c::.inLoop c::k) (E s) (T s)):Go.Abs.loop F s0=some r->aE P f N S Q (.code (.loop c)::k) env st:=λH=>by
 obtain⟨n,H⟩:=Uv H;refine .loop (ι:=Nat×σ) (λp=>E p.2) (λp=>T p.2) (λp=>iter F p.1 p.2=some r) (·.1) (n,s0) H a hT ?_
 rintro⟨m,s⟩ b i;obtain⟨m1,q,hm,h,hk⟩:=Uw b;refine step s q ?_ h;cases q with
 | inl j=>exact i (m1,j) hk hm
 | inr x=>exact hk
def aE.lq{c σ R F s0}{r:R} ks(e:σ->Env)(d:σ->LQ Pt)(h:DE env (e s0)=some (e s0))(hT:st=pS (d s0) st)
  (step:∀s q,Kq r (λj=>aE P f N S Q (.inLoop c::k) (kE env ks (e j)) (pS (d j) st)) q->F s=some q->aE P f N S Q (.code c::.inLoop c::k) (kE env ks (e s)) (pS (d s) st)):Go.Abs.loop F s0=some r->aE P f N S Q (.code (.loop c)::k) env st :=
 .lp (λj=>kE env ks (e j)) (λj=>pS (d j) st) (Qu h ks) hT step
def aE.sj{x y}{ι:Type} ks(e:ι->Env)(d:ι->LQ Pt)(I:ι->Prop)(hk:∀i,I i->aE P f N S Q (.code y::k) (kE env ks (e i)) (pS (d i) st))
  (h:(∀i,I i->aE P f N S Q (.code y::k) (kE env ks (e i)) (pS (d i) st))->p->aE P f N S Q (.code x::.code y::k) env st):p->aE P f N S Q (.code (.seq x y)::k) env st :=
 λH=>.seqJoin (λi=>kE env ks (e i)) (λi=>pS (d i) st) I hk λa=>h a H
def aE.bj{id c}{ι:Type} ks(e:ι->Env)(d:ι->LQ Pt)(I:ι->Prop)(hk:∀i,I i->aE P f N S Q k (kE env ks (e i)) (pS (d i) st))
  (h:(∀i,I i->aE P f N S Q (.inBlock id::k) (kE env ks (e i)) (pS (d i) st))->(∀i,I i->aE P f N S Q k (kE env ks (e i)) (pS (d i) st))->p->aE P f N S Q (.code c::.inBlock id::k) env st):p->aE P f N S Q (.code (.block id c)::k) env st :=
 λH=>.Gr (λi=>kE env ks (e i)) (λi=>pS (d i) st) I hk λa b=>h a b H
end go
end Go.Abs
namespace Go.Proofs.YtleflofddacmdaaGreatDoor
open Go.RowKit Go.Abs
theorem s7:Tryz.prog.follows .mixedOrders=true:=by kernel_rfl
def I1:zh Tryz.prog 3 (.int .i64 0) 1 8:=info_parts (by kernel_rfl)
def Xl:zh Tryz.prog 4 (.bool false) 1 1:=info_parts (by kernel_rfl)
def Fg:zh Tryz.prog 5 (.int .u8 0) 1 1:=info_parts (by kernel_rfl)
def Qv:zh Tryz.prog 9 (.string ⟨#[]⟩) 1 16:=info_parts (by kernel_rfl)
def in_30:zh Tryz.prog 30 (.agg #[.slice none 0 0,.slice none 0 0,.slice none 0 0]) 3 72:=info_parts (by kernel_rfl)
def Xm:zh Tryz.prog 34 (.agg #[.slice none 0 0,.slice none 0 0,.slice none 0 0,.slice none 0 0,.slice none 0 0,.slice none 0 0]) 6 144:=info_parts (by kernel_rfl)
def in_36:zh Tryz.prog 36 (.agg #[.int .i64 0,.int .i64 0]) 2 16:=info_parts (by kernel_rfl)
def in_38:zh Tryz.prog 38 (.agg #[.int .i64 0,.int .i64 0,.int .i64 0,.slice none 0 0]) 4 48:=info_parts (by kernel_rfl)
def in_42:zh Tryz.prog 42 (.slice none 0 0) 1 24:=info_parts (by kernel_rfl)
def in_47:zh Tryz.prog 47 (.agg #[.int .i64 0,.int .i64 0,.int .i64 0,.int .i64 0,.int .i64 0,.int .i64 0]) 6 48:=info_parts (by kernel_rfl)
def GP:zh Tryz.prog 50 (.agg #[.int .i64 0,.int .i64 0,.int .i64 0,.int .i64 0,.string ⟨#[]⟩,.string ⟨#[]⟩,.int .i64 0,.int .i64 0,.int .i64 0,.bool false,.int .i64 0,.int .i64 0]) 12 112:=info_parts (by kernel_rfl)
def in_67:zh Tryz.prog 67 (.slice none 0 0) 1 24:=info_parts (by kernel_rfl)
def Sn:zh Tryz.prog 80 (.agg #[.int .i64 0,.int .i64 0,.int .i64 0,.int .i64 0]) 4 32:=info_parts (by kernel_rfl)
def in_89:zh Tryz.prog 89 (.agg #[.int .i64 0,.int .i64 0,.int .i64 0,.int .i64 0,.int .i64 0,.int .i64 0]) 6 48:=info_parts (by kernel_rfl)
def pd:zh Tryz.prog 94 (.agg #[.int .i64 0,.int .i64 0,.int .i64 0,.string ⟨#[]⟩,.string ⟨#[]⟩,.int .i64 0,.int .i64 0,.int .i64 0,.int .i64 0,.bool false,.int .i64 0,.bool false]) 12 112:=info_parts (by kernel_rfl)
def in_102:zh Tryz.prog 102 (.agg #[.slice none 0 0,.slice none 0 0,.slice none 0 0,.slice none 0 0,.slice none 0 0,.slice none 0 0,.slice none 0 0]) 7 168:=info_parts (by kernel_rfl)
def K8:zh Tryz.prog 108 (.agg #[.slice none 0 0,.slice none 0 0,.slice none 0 0]) 3 72:=info_parts (by kernel_rfl)
def Qw:zh Tryz.prog 111 (.agg #[.int .i64 0,.int .i64 0,.int .i64 0,.int .i64 0,.string ⟨#[]⟩,.string ⟨#[]⟩,.int .i64 0]) 7 72:=info_parts (by kernel_rfl)
def GQ:zh Tryz.prog 179 (.pointer none) 1 8:=info_parts (by kernel_rfl)
def K9:zh Tryz.prog 195 (.agg #[.int .i64 0,.int .i64 0,.int .i64 0,.int .i64 0]) 4 32:=info_parts (by kernel_rfl)
def pC:zh Tryz.prog 203 (.agg #[.int .i64 0,.int .i64 0,.int .i64 0]) 3 24:=info_parts (by kernel_rfl)
def Xn:zh Tryz.prog 210 (.agg #[.bool false,.bool false,.bool false,.bool false,.bool false]) 5 5:=info_parts (by kernel_rfl)
def DG:zh Tryz.prog 214 (.agg #[.int .i64 0,.int .i64 0,.int .i64 0,.bool false,.bool false,.slice none 0 0]) 6 56:=info_parts (by kernel_rfl)
def DH:zh Tryz.prog 218 (.agg #[.int .i64 0,.int .i64 0,.int .i64 0,.string ⟨#[]⟩,.slice none 0 0,.slice none 0 0,.bool false,.bool false]) 8 96:=info_parts (by kernel_rfl)
def in_301:zh Tryz.prog 301 (.agg #[.slice none 0 0,.bool false]) 2 32:=info_parts (by kernel_rfl)
def in_320:zh Tryz.prog 320 (.agg #[.int .i64 0,.int .i64 0]) 2 16:=info_parts (by kernel_rfl)
def in_324:zh Tryz.prog 324 (.agg #[.int .i64 0,.int .i64 0,.int .i64 0,.string ⟨#[]⟩,.string ⟨#[]⟩,.int .i64 0,.int .i64 0,.int .i64 0,.int .i64 0,.bool false,.int .i64 0,.bool false]) 12 112:=info_parts (by kernel_rfl)
def in_326:zh Tryz.prog 326 (.agg #[.int .i64 0,.int .i64 0,.int .i64 0,.string ⟨#[]⟩,.string ⟨#[]⟩,.int .i64 0,.int .i64 0,.int .i64 0,.int .i64 0,.bool false,.int .i64 0,.bool false,.slice none 0 0]) 13 136:=info_parts (by kernel_rfl)
def Xo:zh Tryz.prog 447 (.agg #[.int .i64 0,.slice none 0 0]) 2 32:=info_parts (by kernel_rfl)
def in_454:zh Tryz.prog 454 (.agg #[.slice none 0 0,.bool false]) 2 32:=info_parts (by kernel_rfl)
def Xp:zh Tryz.prog 487 (.agg #[.map none,.map none,.map none,.map none,.map none,.slice none 0 0,.slice none 0 0]) 7 88:=info_parts (by kernel_rfl)
def in_714:zh Tryz.prog 714 (.agg #[.int .i64 0,.int .i64 0,.int .i64 0,.string ⟨#[]⟩,.string ⟨#[]⟩,.int .i64 0,.bool false]) 7 72:=info_parts (by kernel_rfl)
theorem zr_32:(Tryz.prog.info? 32).bind (·.zero)=some (.slice none 0 0):=by kernel_rfl
theorem zr_335:(Tryz.prog.info? 335).bind (·.zero)=some (.pointer none):=by kernel_rfl
theorem zr_613:(Tryz.prog.info? 613).bind (·.zero)=some (.agg #[.slice none 0 0,.slice none 0 0]):=by kernel_rfl
theorem Xq:jd Tryz.prog 320=some [.i .i64,.i .i64]:=by kernel_rfl
theorem fg_89:BO Tryz.prog 89=some [.i .i64,.i .i64,.i .i64,.i .i64,.i .i64,.i .i64]:=by kernel_rfl
theorem fg_714:BO Tryz.prog 714=some [.i .i64,.i .i64,.i .i64,.s,.s,.i .i64,.b]:=by kernel_rfl
def ens:List Nat:=[72,151,152,153,154,156,75,76,155,158,157,71,73,74,159,160,77,28,29,10,381,238,239,126,127,51,52,56,19,49,50,406,279,388,250,106,251,382,383,128,240,135,241,129,131,384,385,242,243,244,130,245,192,246,387,247,248,249,132,133,53,54,55,18,20,21,22,134,136,67,25,66,391,390,138,252,253,254,255,137,139,140,143,64,112,147,401,400,531,148,532,402,268,270,269,271,272,145,146,144,57,58,59,60,61,62,65,407,408,284,285,161,533,614,164,534,405,404,273,274,275,149,150,68,69,70,23,24,26,27,4,5,6,8,7,9]
def en(i:Nat){f:Nat}(h:ens[i]?=some f):Go.Abs.Enters Tryz.prog f:=Go.Abs.enters_of (by kernel_rfl) h
def s22:I0 Tryz.prog 22 111 7:=.of Tryz.underlying22 Qw rfl rfl
def s23:I0 Tryz.prog 23 42 1:=.of Tryz.underlying23 in_42 rfl rfl
def s26:I0 Tryz.prog 26 203 3:=.of Tryz.underlying26 pC rfl rfl
def s27:I0 Tryz.prog 27 94 12:=.of Tryz.underlying27 pd rfl rfl
def s28:I0 Tryz.prog 28 80 4:=.of Tryz.underlying28 Sn rfl rfl
def s31:I0 Tryz.prog 31 50 12:=.of Tryz.underlying31 GP rfl rfl
def s32:I0 Tryz.prog 32 195 4:=.of Tryz.underlying32 K9 rfl rfl
def s42:I0 Tryz.prog 42 5 1:=.of Tryz.underlying42 Fg rfl rfl
def s67:I0 Tryz.prog 67 3 1:=.of Tryz.underlying67 I1 rfl rfl
def s105:I0 Tryz.prog 105 214 6:=.of Tryz.underlying105 DG rfl rfl
def s106:I0 Tryz.prog 106 218 8:=.of Tryz.underlying106 DH rfl rfl
def s216:I0 Tryz.prog 216 9 1:=.of Tryz.underlying216 Qv rfl rfl
def s443:I0 Tryz.prog 443 447 2:=.of Tryz.underlying443 Xo rfl rfl
def mi:FT:=⟨[3,4,5,9,22,26,27,28,31,32,42,67,105,106,179,216,335,481,482,483,484,485],[(30,3),(34,6),(36,2),(38,4),(47,6),(50,12),(80,4),(89,6),(94,12),(108,3),(111,7),(195,4),(203,3),(210,5),(214,6),(218,8),(320,2),(324,12),(326,13),(447,2),(613,2),(714,7)],[(3,1),(4,1),(9,1),(26,1),(27,1),(28,1),(30,3),(31,1),(32,1),(34,6),(36,2),(38,4),(42,1),(47,6),(50,12),(67,1),(80,4),(89,6),(94,12),(105,1),(106,1),(108,3),(111,7),(195,4),(203,3),(210,5),(214,6),(216,1),(218,8),(320,2),(326,13),(335,1),(447,2),(613,2),(714,7)],[(30,[(0,0),(1,1),(2,2)]),(34,[(0,0),(1,3),(2,4),(3,5)]),(36,[(0,0),(1,1)]),(38,[(0,0),(1,1),(2,2),(3,3)]),(47,[(0,0),(1,1),(2,2),(3,3),(4,4),(5,5)]),(50,[(0,0),(10,10),(11,11)]),(80,[(0,0),(1,1),(2,2),(3,3)]),(89,[(0,0),(1,1)]),(94,[(0,0),(1,1),(2,2),(3,3),(4,4),(5,5),(6,6),(7,7),(8,8),(9,9),(10,10),(11,11)]),(102,[(0,0),(1,6)]),(108,[(0,0),(1,1),(2,2)]),(111,[(0,0),(1,1),(2,2),(3,3),(4,4),(5,5),(6,6)]),(195,[(2,2)]),(203,[(0,0),(1,1),(2,2)]),(214,[(0,0),(3,3),(4,4),(5,5)]),(218,[(0,0),(1,1),(3,3),(4,4),(5,5),(6,6),(7,7)]),(301,[(0,0),(1,1)]),(324,[(0,0)]),(326,[(0,0),(1,12)]),(447,[(0,0),(1,1)]),(454,[(0,0),(1,1)]),(487,[(0,0),(1,1),(2,2),(3,3),(4,4),(5,5),(6,6)]),(613,[(0,0),(1,1)])],[(3,[.ex (.int .i64 0)]),(5,[.ex (.int .u8 0)]),(9,[.ex (.string ⟨#[]⟩)]),(30,[.ex (.slice none 0 0),.ex (.slice none 0 0),.ex (.slice none 0 0)]),(32,[.ex (.slice none 0 0)]),(34,[.ex (.slice none 0 0),.ex (.slice none 0 0),.ex (.slice none 0 0),.ex (.slice none 0 0),.ex (.slice none 0 0),.ex (.slice none 0 0)]),(36,[.ex (.int .i64 0),.ex (.int .i64 0)]),(38,[.ex (.int .i64 0),.ex (.int .i64 0),.ex (.int .i64 0),.ex (.slice none 0 0)]),(42,[.ex (.slice none 0 0)]),(47,[.ex (.int .i64 0),.ex (.int .i64 0),.ex (.int .i64 0),.ex (.int .i64 0),.ex (.int .i64 0),.ex (.int .i64 0)]),(50,[.ex (.int .i64 0),.ex (.int .i64 0),.ex (.int .i64 0),.ex (.int .i64 0),.ex (.string ⟨#[]⟩),.ex (.string ⟨#[]⟩),.ex (.int .i64 0),.ex (.int .i64 0),.ex (.int .i64 0),.ex (.bool false),.ex (.int .i64 0),.ex (.int .i64 0)]),(80,[.ex (.int .i64 0),.ex (.int .i64 0),.ex (.int .i64 0),.ex (.int .i64 0)]),(89,[.ex (.int .i64 0),.ex (.int .i64 0),.ex (.int .i64 0),.ex (.int .i64 0),.ex (.int .i64 0),.ex (.int .i64 0)]),(94,[.ex (.int .i64 0),.ex (.int .i64 0),.ex (.int .i64 0),.ex (.string ⟨#[]⟩),.ex (.string ⟨#[]⟩),.ex (.int .i64 0),.ex (.int .i64 0),.ex (.int .i64 0),.ex (.int .i64 0),.ex (.bool false),.ex (.int .i64 0),.ex (.bool false)]),(102,[.ex (.slice none 0 0),.ex (.slice none 0 0),.ex (.slice none 0 0),.ex (.slice none 0 0),.ex (.slice none 0 0),.ex (.slice none 0 0),.ex (.slice none 0 0)]),(108,[.ex (.slice none 0 0),.ex (.slice none 0 0),.ex (.slice none 0 0)]),(111,[.ex (.int .i64 0),.ex (.int .i64 0),.ex (.int .i64 0),.ex (.int .i64 0),.ex (.string ⟨#[]⟩),.ex (.string ⟨#[]⟩),.ex (.int .i64 0)]),(195,[.ex (.int .i64 0),.ex (.int .i64 0),.ex (.int .i64 0),.ex (.int .i64 0)]),(203,[.ex (.int .i64 0),.ex (.int .i64 0),.ex (.int .i64 0)]),(210,[.ex (.bool false),.ex (.bool false),.ex (.bool false),.ex (.bool false),.ex (.bool false)]),(214,[.ex (.int .i64 0),.ex (.int .i64 0),.ex (.int .i64 0),.ex (.bool false),.ex (.bool false),.ex (.slice none 0 0)]),(218,[.ex (.int .i64 0),.ex (.int .i64 0),.ex (.int .i64 0),.ex (.string ⟨#[]⟩),.ex (.slice none 0 0),.ex (.slice none 0 0),.ex (.bool false),.ex (.bool false)]),(301,[.ex (.slice none 0 0),.ex (.bool false)]),(320,[.ex (.int .i64 0),.ex (.int .i64 0)]),(324,[.ex (.int .i64 0),.ex (.int .i64 0),.ex (.int .i64 0),.ex (.string ⟨#[]⟩),.ex (.string ⟨#[]⟩),.ex (.int .i64 0),.ex (.int .i64 0),.ex (.int .i64 0),.ex (.int .i64 0),.ex (.bool false),.ex (.int .i64 0),.ex (.bool false)]),(326,[.ex (.int .i64 0),.ex (.int .i64 0),.ex (.int .i64 0),.ex (.string ⟨#[]⟩),.ex (.string ⟨#[]⟩),.ex (.int .i64 0),.ex (.int .i64 0),.ex (.int .i64 0),.ex (.int .i64 0),.ex (.bool false),.ex (.int .i64 0),.ex (.bool false),.ex (.slice none 0 0)]),(335,[.ex (.pointer none)]),(447,[.ex (.int .i64 0),.ex (.slice none 0 0)]),(454,[.ex (.slice none 0 0),.ex (.bool false)]),(487,[.ex (.map none),.ex (.map none),.ex (.map none),.ex (.map none),.ex (.map none),.ex (.slice none 0 0),.ex (.slice none 0 0)]),(613,[.ex (.slice none 0 0),.ex (.slice none 0 0)]),(714,[.ex (.int .i64 0),.ex (.int .i64 0),.ex (.int .i64 0),.ex (.string ⟨#[]⟩),.ex (.string ⟨#[]⟩),.ex (.int .i64 0),.ex (.bool false)])],[(22,111,7),(23,42,1),(26,203,3),(27,94,12),(28,80,4),(31,50,12),(32,195,4),(42,5,1),(67,3,1),(105,214,6),(106,218,8),(216,9,1),(443,447,2)],[9],ens,[(30,[(0,1),(1,1),(2,1)]),(34,[(0,3),(3,1),(4,1),(5,1)]),(36,[(0,1),(1,1)]),(38,[(0,1),(1,1),(2,1),(3,1)]),(47,[(0,1),(1,1),(2,1),(3,1),(4,1),(5,1)]),(50,[(0,1),(1,1),(2,1),(3,1),(4,1),(5,1),(6,1),(7,1),(8,1),(9,1),(10,1),(11,1)]),(80,[(0,1),(1,1),(2,1),(3,1)]),(89,[(0,1),(1,5)]),(94,[(0,1),(1,1),(2,1),(3,1),(4,1),(5,1),(6,1),(7,1),(8,1),(9,1),(10,1),(11,1)]),(102,[(0,6),(6,1)]),(108,[(0,1),(1,1),(2,1)]),(195,[(0,1),(1,1),(2,1),(3,1)]),(203,[(0,1),(1,1),(2,1)]),(214,[(0,1),(1,1),(2,1),(3,1),(4,1),(5,1)]),(218,[(0,1),(1,1),(2,1),(3,1),(4,1),(5,1),(6,1),(7,1)]),(301,[(0,1),(1,1)]),(320,[(0,1),(1,1)]),(324,[(0,12)]),(326,[(0,12),(12,1)]),(447,[(0,1),(1,1)]),(454,[(0,1),(1,1)]),(487,[(0,1),(1,1),(2,1),(3,1),(4,1),(5,1),(6,1)]),(714,[(0,2),(2,1),(3,1),(4,1),(5,1),(6,1)])]⟩
def cE:mi.Ok Tryz.prog:=FT.ok_of (by kernel_rfl) ⟨⟨_,yL I1,rfl⟩,⟨_,yL Fg,rfl⟩,⟨_,yL Qv,rfl⟩,⟨_,yL in_30,rfl⟩,⟨_,zr_32,rfl⟩,⟨_,yL Xm,rfl⟩,⟨_,yL in_36,rfl⟩,⟨_,yL in_38,rfl⟩,⟨_,yL in_42,rfl⟩,⟨_,yL in_47,rfl⟩,⟨_,yL GP,rfl⟩,⟨_,yL Sn,rfl⟩,⟨_,yL in_89,rfl⟩,⟨_,yL pd,rfl⟩,⟨_,yL in_102,rfl⟩,⟨_,yL K8,rfl⟩,⟨_,yL Qw,rfl⟩,⟨_,yL K9,rfl⟩,⟨_,yL pC,rfl⟩,⟨_,yL Xn,rfl⟩,⟨_,yL DG,rfl⟩,⟨_,yL DH,rfl⟩,⟨_,yL in_301,rfl⟩,⟨_,yL in_320,rfl⟩,⟨_,yL in_324,rfl⟩,⟨_,yL in_326,rfl⟩,⟨_,zr_335,rfl⟩,⟨_,yL Xo,rfl⟩,⟨_,yL in_454,rfl⟩,⟨_,yL Xp,rfl⟩,⟨_,zr_613,rfl⟩,⟨_,yL in_714,rfl⟩,trivial⟩ ⟨s22,s23,s26,s27,s28,s31,s32,s42,s67,s105,s106,s216,s443,trivial⟩
abbrev Sp:=cE.II 34 1 rfl
abbrev fo_34_2:=cE.II 34 2 rfl
abbrev fo_94_0:=cE.II 94 0 rfl
abbrev fo_94_1:=cE.II 94 1 rfl
abbrev fo_94_2:=cE.II 94 2 rfl
abbrev fo_94_5:=cE.II 94 5 rfl
abbrev fo_94_6:=cE.II 94 6 rfl
abbrev fo_94_7:=cE.II 94 7 rfl
abbrev fo_94_8:=cE.II 94 8 rfl
abbrev fo_94_9:=cE.II 94 9 rfl
abbrev Xr:=cE.II 94 10 rfl
abbrev GR:=cE.II 102 0 rfl
abbrev Xs:=cE.II 102 1 rfl
abbrev Xt:=cE.II 108 0 rfl
abbrev Xu:=cE.II 108 1 rfl
abbrev Xv:=cE.II 108 2 rfl
abbrev NG:=cE.II 111 2 rfl
abbrev GS:=cE.II 111 3 rfl
abbrev NH:=cE.II 218 1 rfl
abbrev NI:=cE.II 447 1 rfl
abbrev NJ:=cE.II 487 0 rfl
abbrev GU:=cE.II 487 1 rfl
abbrev NK:=cE.Qo 3 rfl
abbrev one_4:=cE.Qo 4 rfl
abbrev one_5:=cE.Qo 5 rfl
abbrev one_30:=cE.K3 30 rfl
abbrev La:=cE.K3 34 rfl
abbrev Lb:=cE.K3 36 rfl
abbrev Lc:=cE.K3 38 rfl
abbrev one_50:=cE.K3 50 rfl
abbrev DI:=cE.Qo 67 rfl
abbrev v8:=cE.K3 94 rfl
abbrev Sq:=cE.Qo 105 rfl
abbrev yM:=cE.Qo 106 rfl
abbrev one_111:=cE.K3 111 rfl
abbrev BV:=cE.K3 203 rfl
abbrev Sr:=cE.K3 218 rfl
abbrev sz_3:=cE.Wb 3 rfl
abbrev sz_4:=cE.Wb 4 rfl
abbrev sz_30:=cE.Wb 30 rfl
abbrev JO:=cE.Wb 34 rfl
abbrev Ss:=cE.Wb 36 rfl
abbrev Su:=cE.Wb 38 rfl
abbrev sz_50:=cE.Wb 50 rfl
abbrev BW:=cE.Wb 94 rfl
abbrev sz_111:=cE.Wb 111 rfl
abbrev GV:=cE.Wb 203 rfl
abbrev sz_214:=cE.Wb 214 rfl
abbrev Ld:=cE.Wb 218 rfl
abbrev pl_30:=cE.plA 30 rfl
abbrev pl_34:=cE.plA 34 rfl
abbrev pl_50:=cE.plA 50 rfl
abbrev Xw:=cE.plA 108 rfl
abbrev pl_214:=cE.plA 214 rfl
abbrev Xx:=cE.plA 218 rfl
abbrev pl_487:=cE.plA 487 rfl
abbrev zr_34:=yL Xm
abbrev zr_50:=yL GP
abbrev Lf:=yL K8
abbrev Xy:=yL DG
abbrev Xz:=yL DH
end Go.Proofs.YtleflofddacmdaaGreatDoor
namespace Go.Abs
open Go.Proofs Go.Proofs.YtleflofddacmdaaGreatDoor
section
variable {f:Ctx}{N p p':Nat}{S:Start}{Q:EV->St->Prop}{k k':List Item}{l o l' o':List Oper}{env env':Env}{st st':St}{ps:List Prop}{xs:List EV}{a q:Prop}
def aE.AP(n:Nat)(hs:LQ (Hint Tryz.prog mi))(h:Dc Tryz.prog S.base mi N n (.run k) env st hs=some ⟨.run k',env',st',⟨ps,xs,xs⟩⟩)(H:zg ps)(hk:a->aE Tryz.prog f N S Q k' env' st'):a->aE Tryz.prog f N S Q k env st:=λx=>oc cE s7 h ⟨H,rfl⟩ (hk x)
def aE.Wc(n:Nat)(hs:LQ (Hint Tryz.prog mi))(h:goH Tryz.prog S.base mi N n (.run k) env st hs=some ⟨.run k',env',st',⟨ps,xs,xs⟩⟩)(H:zg ps)(hk:a->aE Tryz.prog f N S Q k' env' st'):a->aE Tryz.prog f N S Q k env st:=λx=>DF cE s7 h ⟨H,rfl⟩ (hk x)
def aE.A(n:Nat)(hs:LQ (Hint Tryz.prog mi))(h:Dc Tryz.prog S.base mi N n (.run k) env st hs=some ⟨.run k',env',st',⟨[],xs,xs⟩⟩)(hk:a->aE Tryz.prog f N S Q k' env' st'):a->aE Tryz.prog f N S Q k env st:=.AP n hs h trivial hk
def aE.AD(n:Nat)(hs:LQ (Hint Tryz.prog mi))(h:Dc Tryz.prog S.base mi N n (.run k) env st hs=some ⟨.run k',env',st',⟨[q],xs,xs⟩⟩)(hk:a->aE Tryz.prog f N S Q k' env' st')(H:q:=by kernel_rfl):a->aE Tryz.prog f N S Q k env st:=.AP n hs h H hk
def aE.BP(n:Nat)(hs:LQ (Hint Tryz.prog mi))(h:Dc Tryz.prog S.base mi N n (.run k) env st hs=some ⟨.ops l' o' k',env',st',⟨ps,xs,xs⟩⟩)(H:zg ps)(hk:a->bO Tryz.prog f N S Q l' o' k' env' st'):a->aE Tryz.prog f N S Q k env st:=λx=>oc cE s7 h ⟨H,rfl⟩ (hk x)
def aE.BHP(n:Nat)(hs:LQ (Hint Tryz.prog mi))(h:goH Tryz.prog S.base mi N n (.run k) env st hs=some ⟨.ops l' o' k',env',st',⟨ps,xs,xs⟩⟩)(H:zg ps)(hk:a->bO Tryz.prog f N S Q l' o' k' env' st'):a->aE Tryz.prog f N S Q k env st:=λx=>DF cE s7 h ⟨H,rfl⟩ (hk x)
theorem aE.B(n:Nat)(hs:LQ (Hint Tryz.prog mi))(h:Dc Tryz.prog S.base mi N n (.run k) env st hs=some ⟨.ops l' o' k',env',st',⟨[],xs,xs⟩⟩)(hk:a->bO Tryz.prog f N S Q l' o' k' env' st'):a->aE Tryz.prog f N S Q k env st:=.BP n hs h trivial hk
def aE.BD(n:Nat)(hs:LQ (Hint Tryz.prog mi))(h:Dc Tryz.prog S.base mi N n (.run k) env st hs=some ⟨.ops l' o' k',env',st',⟨[q],xs,xs⟩⟩)(hk:a->bO Tryz.prog f N S Q l' o' k' env' st')(H:q:=by kernel_rfl):a->aE Tryz.prog f N S Q k env st:=.BP n hs h H hk
def aE.CP(n:Nat)(hs:LQ (Hint Tryz.prog mi))(h:Dc Tryz.prog S.base mi N n (.run k) env st hs=some ⟨.draw l' p' o' k',env',st',⟨ps,xs,xs⟩⟩)(H:zg ps)(hk:a->pw Tryz.prog f N S Q l' p' o' k' env' st'):a->aE Tryz.prog f N S Q k env st:=λx=>oc cE s7 h ⟨H,rfl⟩ (hk x)
def aE.C(n:Nat)(hs:LQ (Hint Tryz.prog mi))(h:Dc Tryz.prog S.base mi N n (.run k) env st hs=some ⟨.draw l' p' o' k',env',st',⟨[],xs,xs⟩⟩)(hk:a->pw Tryz.prog f N S Q l' p' o' k' env' st'):a->aE Tryz.prog f N S Q k env st:=.CP n hs h trivial hk
def aE.CD(n:Nat)(hs:LQ (Hint Tryz.prog mi))(h:Dc Tryz.prog S.base mi N n (.run k) env st hs=some ⟨.draw l' p' o' k',env',st',⟨[q],xs,xs⟩⟩)(hk:a->pw Tryz.prog f N S Q l' p' o' k' env' st')(H:q:=by kernel_rfl):a->aE Tryz.prog f N S Q k env st:=.CP n hs h H hk
def bO.AP(n:Nat)(hs:LQ (Hint Tryz.prog mi))(h:Dc Tryz.prog S.base mi N n (.ops l o k) env st hs=some ⟨.run k',env',st',⟨ps,xs,xs⟩⟩)(H:zg ps)(hk:a->aE Tryz.prog f N S Q k' env' st'):a->bO Tryz.prog f N S Q l o k env st:=λx=>oc cE s7 h ⟨H,rfl⟩ (hk x)
def bO.Wc(n:Nat)(hs:LQ (Hint Tryz.prog mi))(h:goH Tryz.prog S.base mi N n (.ops l o k) env st hs=some ⟨.run k',env',st',⟨ps,xs,xs⟩⟩)(H:zg ps)(hk:a->aE Tryz.prog f N S Q k' env' st'):a->bO Tryz.prog f N S Q l o k env st:=λx=>DF cE s7 h ⟨H,rfl⟩ (hk x)
def bO.A(n:Nat)(hs:LQ (Hint Tryz.prog mi))(h:Dc Tryz.prog S.base mi N n (.ops l o k) env st hs=some ⟨.run k',env',st',⟨[],xs,xs⟩⟩)(hk:a->aE Tryz.prog f N S Q k' env' st'):a->bO Tryz.prog f N S Q l o k env st:=.AP n hs h trivial hk
def bO.AD(n:Nat)(hs:LQ (Hint Tryz.prog mi))(h:Dc Tryz.prog S.base mi N n (.ops l o k) env st hs=some ⟨.run k',env',st',⟨[q],xs,xs⟩⟩)(hk:a->aE Tryz.prog f N S Q k' env' st')(H:q:=by kernel_rfl):a->bO Tryz.prog f N S Q l o k env st:=.AP n hs h H hk
def bO.BP(n:Nat)(hs:LQ (Hint Tryz.prog mi))(h:Dc Tryz.prog S.base mi N n (.ops l o k) env st hs=some ⟨.ops l' o' k',env',st',⟨ps,xs,xs⟩⟩)(H:zg ps)(hk:a->bO Tryz.prog f N S Q l' o' k' env' st'):a->bO Tryz.prog f N S Q l o k env st:=λx=>oc cE s7 h ⟨H,rfl⟩ (hk x)
theorem bO.B(n:Nat)(hs:LQ (Hint Tryz.prog mi))(h:Dc Tryz.prog S.base mi N n (.ops l o k) env st hs=some ⟨.ops l' o' k',env',st',⟨[],xs,xs⟩⟩)(hk:a->bO Tryz.prog f N S Q l' o' k' env' st'):a->bO Tryz.prog f N S Q l o k env st:=.BP n hs h trivial hk
def bO.CP(n:Nat)(hs:LQ (Hint Tryz.prog mi))(h:Dc Tryz.prog S.base mi N n (.ops l o k) env st hs=some ⟨.draw l' p' o' k',env',st',⟨ps,xs,xs⟩⟩)(H:zg ps)(hk:a->pw Tryz.prog f N S Q l' p' o' k' env' st'):a->bO Tryz.prog f N S Q l o k env st:=λx=>oc cE s7 h ⟨H,rfl⟩ (hk x)
def bO.C(n:Nat)(hs:LQ (Hint Tryz.prog mi))(h:Dc Tryz.prog S.base mi N n (.ops l o k) env st hs=some ⟨.draw l' p' o' k',env',st',⟨[],xs,xs⟩⟩)(hk:a->pw Tryz.prog f N S Q l' p' o' k' env' st'):a->bO Tryz.prog f N S Q l o k env st:=.CP n hs h trivial hk
def pw.AP(n:Nat)(hs:LQ (Hint Tryz.prog mi))(h:Dc Tryz.prog S.base mi N n (.draw l p o k) env st hs=some ⟨.run k',env',st',⟨ps,xs,xs⟩⟩)(H:zg ps)(hk:a->aE Tryz.prog f N S Q k' env' st'):a->pw Tryz.prog f N S Q l p o k env st:=λx=>oc cE s7 h ⟨H,rfl⟩ (hk x)
def pw.A(n:Nat)(hs:LQ (Hint Tryz.prog mi))(h:Dc Tryz.prog S.base mi N n (.draw l p o k) env st hs=some ⟨.run k',env',st',⟨[],xs,xs⟩⟩)(hk:a->aE Tryz.prog f N S Q k' env' st'):a->pw Tryz.prog f N S Q l p o k env st:=.AP n hs h trivial hk
def pw.CP(n:Nat)(hs:LQ (Hint Tryz.prog mi))(h:Dc Tryz.prog S.base mi N n (.draw l p o k) env st hs=some ⟨.draw l' p' o' k',env',st',⟨ps,xs,xs⟩⟩)(H:zg ps)(hk:a->pw Tryz.prog f N S Q l' p' o' k' env' st'):a->pw Tryz.prog f N S Q l p o k env st:=λx=>oc cE s7 h ⟨H,rfl⟩ (hk x)
def pw.C(n:Nat)(hs:LQ (Hint Tryz.prog mi))(h:Dc Tryz.prog S.base mi N n (.draw l p o k) env st hs=some ⟨.draw l' p' o' k',env',st',⟨[],xs,xs⟩⟩)(hk:a->pw Tryz.prog f N S Q l' p' o' k' env' st'):a->pw Tryz.prog f N S Q l p o k env st:=.CP n hs h trivial hk
end
section
variable {f:Ctx}{N p p':Nat}{S:Start}{Q:EV->St->Prop}{k k':List Item}{l o l' o':List Oper}{env env':Env}{st st':St}{ps:List Prop}{xs:List EV}{a q:Prop}
theorem xj{p:Prop}(h:p:=by first|rfl|(simp only[zbb,zel,Qe,Qf,kD];rfl)|(repeat' first|rfl|exact ij|exact okArr|refine bV ?_ ?_)):p:=h
theorem leA{x y:EV}(h:eB x y:=by first|exact .aW _|exact .tupD rfl|exact .dA _ _ _|(first|refine .WN ?_|refine .d (.agg ?_));repeat' first|exact trivial|exact .aW _|exact .nil _|exact .dA _ _ _|exact .e0 _|refine .d ?_|refine .agg ?_|refine⟨?_,?_⟩):eB x y:=h
theorem leK{x y:EV}(h:eB x y:=by first|exact .aW _|exact eB.WN (ds:=[]) trivial|exact .dA _ _ _|((first|refine .WN ?_|refine .tupE ?_|refine .aggE ?_);repeat' first|exact trivial|exact .aW _|exact .dA _ _ _|refine⟨?_,?_⟩)):eB x y:=h
def KY.of{P:uG}{l:LQ Oper}{env:Env}{o:Oper}{x:EV}(h:∀s,zd P (jJ l o env) s o x):∀H,KY P l env o x H
 | []=>trivial
 | s::r=>⟨h s,.of h r⟩
section
variable {τ σ1 σ2:Type}{f:FuncId}{fn:Func}{rs:List ResultVar}{es:List EV}{x r:τ}{q1:σ1 ⊕ τ}{q2:σ2 ⊕ (σ1 ⊕ τ)}{P1:σ1->Prop}{P2:σ2->Prop}{E:τ->D}{X:EV}{T s0:St}
def aE.G(F:Tryz.prog.funcs[f]?=some fn/\fn.results=rs.toArray)(a:x=r->Q (qt es) st)(h:o7 mi env st rs=some es:=by rfl):some x=some r->aE Tryz.prog (.of f) N S Q (.code .ret::k) env st:=λH=>.rc cE F.1 F.2 h (a (Option.some.inj H))
def aE.G1(F:Tryz.prog.funcs[f]?=some fn/\fn.results=rs.toArray)(a:Kq r P1 q1)(b:x=r->Q (qt es) st)(h:o7 mi env st rs=some es:=by rfl):some (.inr x)=some q1->aE Tryz.prog (.of f) N S Q (.code .ret::k) env st:=λH=>by
 cases H;exact .rc cE F.1 F.2 h (b a)
def aE.G2(F:Tryz.prog.funcs[f]?=some fn/\fn.results=rs.toArray)(a:Kq q1 P2 q2)(b:Kq r P1 q1)(c:x=r->Q (qt es) st)(h:o7 mi env st rs=some es:=by rfl):some (.inr (.inr x))=some q2->aE Tryz.prog (.of f) N S Q (.code .ret::k) env st:=λH=>by
 cases H;cases a;exact .rc cE F.1 F.2 h (c b)
def aE.K(F:Tryz.prog.funcs[f]?=some fn/\fn.results=rs.toArray)(is ts:LQ Nat)(h:o7 mi env st rs=some es:=by rfl)(hK:x=r->KR s0 X T is ts (qt es) st:=by intro H;cases H;refine⟨xj,xj,xj,xj,xj,xj,xj,xj,leK⟩):some x=some r->aE Tryz.prog (.of f) N S (KQ s0 X T) (.code .ret::k) env st:=.G F (λe=>⟨is,ts,hK e⟩) h
def aE.K1(F:Tryz.prog.funcs[f]?=some fn/\fn.results=rs.toArray)(a:Kq r P1 q1)(is ts:LQ Nat)(h:o7 mi env st rs=some es:=by rfl)(hK:x=r->KR s0 X T is ts (qt es) st:=by intro H;cases H;refine⟨xj,xj,xj,xj,xj,xj,xj,xj,leK⟩):some (.inr x)=some q1->aE Tryz.prog (.of f) N S (KQ s0 X T) (.code .ret::k) env st:=.G1 F a (λe=>⟨is,ts,hK e⟩) h
def aE.R(F:Tryz.prog.funcs[f]?=some fn/\fn.results=rs.toArray)(h:o7 mi env st rs=some es:=by rfl)(hle:eB (qt es) (.d (E x)):=by exact leA):some x=some r->aE Tryz.prog (.of f) N S (QD (rE E r)) (.code .ret::k) env st:=.G F (λe=>.m (e▸rfl) hle) h
def aE.R1(F:Tryz.prog.funcs[f]?=some fn/\fn.results=rs.toArray)(H:Kq r P1 q1)(h:o7 mi env st rs=some es:=by rfl)(hle:eB (qt es) (.d (E x)):=by exact leA):some (.inr x)=some q1->aE Tryz.prog (.of f) N S (QD (rE E r)) (.code .ret::k) env st:=.G1 F H (λe=>.m (e▸rfl) hle) h
def aE.R2(F:Tryz.prog.funcs[f]?=some fn/\fn.results=rs.toArray)(Q:Kq q1 P2 q2)(H:Kq r P1 q1)(h:o7 mi env st rs=some es:=by rfl)(hle:eB (qt es) (.d (E x)):=by exact leA):some (.inr (.inr x))=some q2->aE Tryz.prog (.of f) N S (QD (rE E r)) (.code .ret::k) env st:=.G2 F Q H (λe=>.m (e▸rfl) hle) h
def aE.R3{σ3:Type}{q:σ3 ⊕ (σ2 ⊕ (σ1 ⊕ τ))}{P:σ3->Prop}(F:Tryz.prog.funcs[f]?=some fn/\fn.results=rs.toArray)(a:Kq q2 P q)(Q:Kq q1 P2 q2)(b:Kq r P1 q1)(h:o7 mi env st rs=some es:=by rfl)(hle:eB (qt es) (.d (E x)):=by exact leA):some (.inr (.inr (.inr x)))=some q->aE Tryz.prog (.of f) N S (QD (rE E r)) (.code .ret::k) env st:=λH=>by
 cases H;cases a;exact .R2 F Q b h hle rfl
def aE.Z(n:Nat)(hs:LQ (Hint Tryz.prog mi)){k':LQ Item}(H:Dc Tryz.prog S.base mi N n (.run k) env st hs=some ⟨.run (.code .ret::k'),env',st',⟨[],xs,xs⟩⟩)(F:Tryz.prog.funcs[f]?=some fn/\fn.results=rs.toArray)(h:o7 mi env' st' rs=some es:=by rfl)(hle:eB (qt es) (.d (E x)):=by exact leA):some x=some r->aE Tryz.prog (.of f) N S (QD (rE E r)) k env st:=.A n hs H (.R F h hle)
def bO.Z(n:Nat)(hs:LQ (Hint Tryz.prog mi)){k':LQ Item}(H:Dc Tryz.prog S.base mi N n (.ops l o k) env st hs=some ⟨.run (.code .ret::k'),env',st',⟨[],xs,xs⟩⟩)(F:Tryz.prog.funcs[f]?=some fn/\fn.results=rs.toArray)(h:o7 mi env' st' rs=some es:=by rfl)(hle:eB (qt es) (.d (E x)):=by exact leA):some x=some r->bO Tryz.prog (.of f) N S (QD (rE E r)) l o k env st:=.A n hs H (.R F h hle)
end
def aE.V{f:Ctx}{α:Type}{b:Bool}{d:Decidable (b=true)}{e H:LX α}{r:α}{c:uH}{x y:Code}(n:Nat)(hs:LQ (Hint Tryz.prog mi))(h:Dc Tryz.prog S.base mi N n (.run k) env st hs=some ⟨.run (.code (.cond c x y)::k'),env',st',⟨[],xs,xs⟩⟩)(ht:e=some r->aE Tryz.prog f N S Q (.code x::k') env' st')(a:H=some r->aE Tryz.prog f N S Q (.code y::k') env' st')(g:bp env' c=some (.d (.ex (.bool b))):=by rfl):@_root_.ite _ (b=true) d e H=some r->aE Tryz.prog f N S Q k env st:=.A n hs h (.I g ht a)
def bO.V{f:Ctx}{α:Type}{b:Bool}{d:Decidable (b=true)}{e H:LX α}{r:α}{c:uH}{x y:Code}(n:Nat)(hs:LQ (Hint Tryz.prog mi))(h:Dc Tryz.prog S.base mi N n (.ops l o k) env st hs=some ⟨.run (.code (.cond c x y)::k'),env',st',⟨[],xs,xs⟩⟩)(ht:e=some r->aE Tryz.prog f N S Q (.code x::k') env' st')(a:H=some r->aE Tryz.prog f N S Q (.code y::k') env' st')(g:bp env' c=some (.d (.ex (.bool b))):=by rfl):@_root_.ite _ (b=true) d e H=some r->bO Tryz.prog f N S Q l o k env st:=.A n hs h (.I g ht a)
def pw.V{f:Ctx}{α:Type}{b:Bool}{d:Decidable (b=true)}{e H:LX α}{r:α}{c:uH}{x y:Code}(n:Nat)(hs:LQ (Hint Tryz.prog mi))(h:Dc Tryz.prog S.base mi N n (.draw l p o k) env st hs=some ⟨.run (.code (.cond c x y)::k'),env',st',⟨[],xs,xs⟩⟩)(ht:e=some r->aE Tryz.prog f N S Q (.code x::k') env' st')(a:H=some r->aE Tryz.prog f N S Q (.code y::k') env' st')(g:bp env' c=some (.d (.ex (.bool b))):=by rfl):@_root_.ite _ (b=true) d e H=some r->pw Tryz.prog f N S Q l p o k env st:=.A n hs h (.I g ht a)
section
variable {τ:Type}{x r:τ}{f:FuncId}{fn:Func}{X:EV}{T s0:St}(F:Tryz.prog.funcs[f]?=some fn/\fn.results=#[])(is ts:List Nat)(hK:x=r->KR s0 X T is ts (.dp []) st:=by intro H;cases H;refine⟨xj,xj,xj,xj,xj,xj,xj,xj,leK⟩)
include F hK
theorem aE.Kf:some x=some r->aE Tryz.prog (.of f) N S (KQ s0 X T) [] env st:=λH=>.fin0 F.1 F.2 ⟨is,ts,hK (Option.some.inj H)⟩
end
section
variable {d:Option Tmp}{ty:uE}{pos:String}{after:uD Edge}{f':FuncId}{ops rest:List Oper}{l:List uH}{ts:uD uE}{MI es cs:List EV}{r:EV}{s0 s1:St}
def bO.cf(rs tk:LQ Nat)(x:EV)(pt:LQ Pt)(H:q->bg Tryz.prog f' MI s0 (QE r s1))(b:q)(hk:a->bO Tryz.prog f N S Q ops rest k (env.put d x) (pS pt st))(c:eE N d=true:=by rfl)(F:IZ f' ens=true:=by rfl)(h1:y0 env l=some es:=by rfl)
  (hle:sw es (MI.map (EV.ren (b8 rs st.aB.length) (b8 tk st.ag.length))):=by repeat' first|exact trivial|exact .aW _|exact .dA _ _ _|exact .nil _|exact .e0 _|refine⟨?_,?_⟩)
  (e:(xy rs tk s0 st && MI.all (nF s0.aB.length s0.ag.length))=true:=by exact xj) (g:s0.aB.all (gG s0.aB.length s0.ag.length)=true:=by exact xj) (i:rs.map (λr=>st.aB[r]?)=s0.aB.map (λx=>some (x.ren (b8 rs st.aB.length) (b8 tk st.ag.length))):=by exact xj) (ht:tk.map (λr=>st.ag[r]?)=s0.ag.map some:=by exact xj)
  (hx:r.ren (b8 rs st.aB.length) (b8 tk st.ag.length)=x:=by exact xj) (hs:kD st s1 rs tk=pS pt st:=by exact xj):a->bO Tryz.prog f N S Q ops (⟨d,.call ⟨.value (.func f'),l.toArray,ts⟩,ty,pos,after,none⟩::rest) k env st:=λh=>.Nf (tz cE.2.2.2.2.2.2.2.1 F) c rs tk h1 (H b) hle e g i ht hx hs (hk h)
def bO.cg{y:uH}(rs tk:LQ Nat)(x:EV)(pt:LQ Pt)(H:q->bg Tryz.prog f' MI s0 (QE r s1))(b:q)(hk:a->bO Tryz.prog f N S Q ops rest k (env.put d x) (pS pt st))(hy:bp env y=some (.xl f' cs):=by rfl)(c:eE N d=true:=by rfl)(F:IZ f' ens=true:=by rfl)(h1:y0 env l=some es:=by rfl)
  (hle:sw (es++cs) (MI.map (EV.ren (b8 rs st.aB.length) (b8 tk st.ag.length))):=by repeat' first|exact trivial|exact .aW _|exact .dA _ _ _|exact .nil _|exact .e0 _|refine⟨?_,?_⟩)
  (e:(xy rs tk s0 st && MI.all (nF s0.aB.length s0.ag.length))=true:=by exact xj) (g:s0.aB.all (gG s0.aB.length s0.ag.length)=true:=by exact xj) (i:rs.map (λr=>st.aB[r]?)=s0.aB.map (λx=>some (x.ren (b8 rs st.aB.length) (b8 tk st.ag.length))):=by exact xj) (ht:tk.map (λr=>st.ag[r]?)=s0.ag.map some:=by exact xj)
  (hx:r.ren (b8 rs st.aB.length) (b8 tk st.ag.length)=x:=by exact xj) (hs:kD st s1 rs tk=pS pt st:=by exact xj):a->bO Tryz.prog f N S Q ops (⟨d,.call ⟨.value y,l.toArray,ts⟩,ty,pos,after,none⟩::rest) k env st:=λh=>.callFC (tz cE.2.2.2.2.2.2.2.1 F) c hy rs tk h1 (H b) hle e g i ht hx hs (hk h)
def dmap{d:LQ (LQ Pt)}{st:St}(h:d[0]?=some []):(d.map λx=>pS x st)[0]?=some st:=by rw[zau,h];rfl
def aE.o1{id:Nat}(n m:Nat)(d:LQ (LQ Pt))(hk:a->o6 Tryz.prog f N S Q l' n [m] (d.map λx=>pS x st) 0 (l'.take n) k env)(h:d[0]?=some []:=by rfl)(H:dB l' n=true:=by kernel_rfl)(ha:m<n:=by decide):a->aE Tryz.prog f N S Q (.code (.region id l'.toArray true)::k) env st:=λz=>.Se n m _ s7 H ha (dmap h) (hk z)
def aE.o2{id:Nat}(n m b:Nat)(d:LQ (LQ Pt))(hk:a->o6 Tryz.prog f N S Q l' n [m,b] (d.map λx=>pS x st) 0 (l'.take n) k env)(h:d[0]?=some []:=by rfl)(H:dB l' n=true:=by kernel_rfl)(ha:m<n:=by decide)(c:b<n:=by decide)(p:((cn l' []).getD b 0).testBit m=true:=by kernel_rfl):a->aE Tryz.prog f N S Q (.code (.region id l'.toArray true)::k) env st:=λz=>.orders2 n m b _ s7 H ha c p (dmap h) (hk z)
def aE.op{id:Nat}(n:Nat)(E:LQ Nat)(d:LQ (LQ Pt))(hk:a->DA Tryz.prog f N S Q l' n E (d.map λx=>pS x st) 0 (l'.take n) k env)(h:d[0]?=some []:=by rfl)(H:dB l' n=true:=by kernel_rfl)(hn:(E.all λe=>decide (e<n))=true:=by rfl)(b:E.Nodup:=by decide):a->aE Tryz.prog f N S Q (.code (.region id l'.toArray true)::k) env st:=λz=>.parts n E _ s7 H hn b (dmap h) (hk z)
def o6.G{p i:Nat}{E:LQ Nat}{fw:LQ St}{o:LQ Oper}{op:Op}{x:EV}(lo hi:Nat)(h:KY Tryz.prog l' env ⟨d,op,ty,pos,after,none⟩ x ((fw.take (hi+1)).drop lo))(hk:a->o6 Tryz.prog f N S Q l' p E fw (i+1) o k (env.put d x))(H:(!E.any λe=>Nat.beq e i)=true:=by rfl)(b:GA l' E i lo hi=true:=by kernel_rfl)(c:eE N d=true:=by rfl):a->o6 Tryz.prog f N S Q l' p E fw i (⟨d,op,ty,pos,after,none⟩::o) k env:=λz=>.g lo hi h H b c (hk z)
theorem o6.M{p i:Nat}{E:LQ Nat}{fw:LQ St}{o:LQ Oper}{op:Op}(x:EV)(lo hi:Nat)(hk:a->o6 Tryz.prog f N S Q l' p E fw (i+1) o k (env.put d x))(h:KY Tryz.prog l' env ⟨d,op,ty,pos,after,none⟩ x ((fw.take (hi+1)).drop lo):=by repeat' first|exact trivial|exact aG.g (rX rfl)|exact aG.g (mN rfl)|exact aG.g (yI rfl rfl)|exact aG.g (jH (cE.Qo _ rfl) rfl rfl rfl)|refine⟨?_,?_⟩)(H:(!E.any λe=>Nat.beq e i)=true:=by rfl)(b:GA l' E i lo hi=true:=by kernel_rfl)(c:eE N d=true:=by rfl):a->o6 Tryz.prog f N S Q l' p E fw i (⟨d,op,ty,pos,after,none⟩::o) k env:=λz=>.g lo hi h H b c (hk z)
theorem o6.J{p i:Nat}{E:LQ Nat}{fw:LQ St}{o:LQ Oper}{op:Op}{x:EV}(lo hi:Nat)(h:∀s,zd Tryz.prog (jJ l' ⟨d,op,ty,pos,after,none⟩ env) s ⟨d,op,ty,pos,after,none⟩ x)(hk:a->o6 Tryz.prog f N S Q l' p E fw (i+1) o k (env.put d x))(H:(!E.any λe=>Nat.beq e i)=true:=by rfl)(b:GA l' E i lo hi=true:=by kernel_rfl)(c:eE N d=true:=by rfl):a->o6 Tryz.prog f N S Q l' p E fw i (⟨d,op,ty,pos,after,none⟩::o) k env:=λz=>.g lo hi (.of h _) H b c (hk z)
end
end
end Go.Abs
