/- Our own texts of this seat. -/
import Derived.Test.YtleflofddacmdaaGreatDoorYD3
import Derived.Lib.ItoaLen
import Derived.Lib.ItoaNum
import Derived.Lib.Join
set_option linter.all false
set_option maxRecDepth 100000
set_option maxHeartbeats 1000000
namespace Go.Proofs.YtleflofddacmdaaGreatDoor
open Go.RowKit Go.Abs Go.Proofs.Tryz
def Eg{x:Int}{I:LQ uA}{r:(LQ aa)×(LQ ai)×Int}:oI x I=some r->aR prog 20 [cI x,au 1 eW I] (rE (λr=>.dp [au 12 aa.row r.1,au 4 ai.row r.2.1,cI r.2.2]) r):=
 .S func20 rfl ntmps20 results20 rfl λS H F=>.V 17 [] rfl (bA λy d=>.Z 11 [.k HQ d] rfl F) (.V 5 [] rfl (bA λy2 f=>.Z 11 [.k HT f] rfl F) (bA λy3 h=>.AP 14 [.s I,.k Ft h] rfl (aG.g (tu (a:=I) underlying42 underlying5 underlying9 rfl rfl)) (.R F)))
def yj{q:LQ uA}{e:fE}{r:Int×fE}:jR q e=some r->bg prog 49 [.d (au 1 eW q),.Da 0 0 5 5] ⟨[.row 179 [.ref 1 0,.ref 1 2,.ref 1 3,.ref 1 4,.ref 1 5],.row 89 [.d (cI e.count),.d (cI (nth e.aX 0)),.d (cI (nth e.aX 1)),.d (cI (nth e.aX 2)),.d (cI (nth e.aX 3)),.d (cI (nth e.aX 4))]],[]⟩ (QE (.d (cI r.1)) ⟨[.row 179 [.ref 1 0,.ref 1 2,.ref 1 3,.ref 1 4,.ref 1 5],.row 89 [.d (cI r.2.count),.d (cI (nth r.2.aX 0)),.d (cI (nth r.2.aX 1)),.d (cI (nth r.2.aX 2)),.d (cI (nth r.2.aX 3)),.d (cI (nth r.2.aX 4))]],[]⟩):=
 have⟨_,f,_,t,_⟩:=GQ;.S func49 rfl ntmps49 results49 rfl λS E F=>.AP 11 [.i 5] rfl (aG.g (Nw underlying290 rfl)) (.bj (ι:=LQ uA×Int×Int×Int×Int×Int) [] (λ⟨u,j,p,n,D,o⟩=>[(0,.d (au 1 eW u))]) (λ⟨u,j,p,n,D,o⟩=>[.c 1 0 (.d (cI j)),.c 1 2 (.d (cI p)),.c 1 3 (.d (cI n)),.c 1 4 (.d (cI D)),.c 1 5 (.d (cI o))]) (λs=>ko e s.1 s.2.1 s.2.2.1 s.2.2.2.1 s.2.2.2.2.1 s.2.2.2.2.2=some r) (λ⟨u,j,p,n,D,o⟩=>.V 7 [.l u] rfl (.A 4 [] rfl (.K F [0,1] [])) (.A 5 [] rfl (.K F [0,1] []))) (λG v=>lf (.Wm) (.A 5 [] rfl (λH=>by
  refine .cond rfl (λh=>?_) (λh=>absurd h (by decide));clear h;exact wh H (bA λy w=>.AP 27 [.g (.ref 0 0),.k dt w] rfl (aG.g (oA (m:=0) underlying290 f t rfl rfl rfl (by decide))) (.I rfl (.A 5 [] rfl (.K F [0,1] [])) (.AP 14 [.i 1] rfl (aG.g (sk (a:=0) (b:=1) rfl rfl (by decide) (by decide))) (lf (.inLoop) (.A 5 [] rfl (λH=>by
   refine .cond rfl (λh=>?_) (λh=>absurd h (by decide));clear h;exact wh H (bA λy2 x=>.AP 27 [.g (.ref 0 1),.k dt x] rfl (aG.g (oA (m:=1) underlying290 f t rfl rfl rfl (by decide))) (.I rfl (.A 5 [] rfl (.K F [0,1] [])) (.AP 14 [.i 2] rfl (aG.g (sk (a:=1) (b:=1) rfl rfl (by decide) (by decide))) (lf (.inLoop) (.A 5 [] rfl (λH=>by
    refine .cond rfl (λh=>?_) (λh=>absurd h (by decide));clear h;exact wh H (bA λy3 z=>.AP 27 [.g (.ref 0 2),.k dt z] rfl (aG.g (oA (m:=2) underlying290 f t rfl rfl rfl (by decide))) (.I rfl (.A 5 [] rfl (.K F [0,1] [])) (.AP 14 [.i 3] rfl (aG.g (sk (a:=2) (b:=1) rfl rfl (by decide) (by decide))) (lf (.inLoop) (.A 5 [] rfl (λH=>by
     refine .cond rfl (λh=>?_) (λh=>absurd h (by decide));clear h;exact wh H (bA λy4 B=>.AP 27 [.g (.ref 0 3),.k dt B] rfl (aG.g (oA (m:=3) underlying290 f t rfl rfl rfl (by decide))) (.I rfl (.A 5 [] rfl (.K F [0,1] [])) (.AP 14 [.i 4] rfl (aG.g (sk (a:=3) (b:=1) rfl rfl (by decide) (by decide))) (lf (.inLoop) (.A 5 [] rfl (λH=>by
      refine .cond rfl (λh=>?_) (λh=>absurd h (by decide));clear h;exact wh H (bA λy5 C=>.AP 27 [.g (.ref 0 4),.k dt C] rfl (aG.g (oA (m:=4) underlying290 f t rfl rfl rfl (by decide))) (.I rfl (.A 5 [] rfl (.K F [0,1] [])) (.AP 14 [.i 5] rfl (aG.g (sk (a:=4) (b:=1) rfl rfl (by decide) (by decide))) (lf (.inLoop) (.A 5 [] rfl (λH=>by
       refine .cond rfl (λh=>absurd h (by decide)) (λh=>?_);clear h;exact wh H (.A 1 [] rfl (.zi v (y5.2.1,y.1,y2.1,y3.1,y4.1,y5.1)))))))))))))))))))))))))))))))))))))
def CB{L:LQ uA}{r:fE×Int}:nt L=some r->aR prog 21 [au 1 eW L] (rE (λr=>.dp [.agg (fE.row r.1),cI r.2]) r):=
 have⟨_,h,_,H,_⟩:=I1;have⟨_,b,v,t,_⟩:=GQ;.S func21 rfl ntmps21 results21 rfl λS i F=>bA λy c=>.A 17 [.r 0,.k pN c] rfl (.sj (ι:=Int) [2,4] (λx=>[(5,.d (cI x))]) (λ_=>[]) (λs=>ff y s=some r) (λx=>.V 6 [] rfl (.Z 7 [] rfl F) (bA λy2 f=>.BP 18 [.r 1,.g (.ref 1 2),.g (.ref 1 3),.g (.ref 1 4),.g (.ref 1 5),.Z (.Da 2 0 5 5) [.O (.row 179 [.ref 1 0,.ref 1 2,.ref 1 3,.ref 1 4,.ref 1 5])]] rfl ⟨.e (zR underlying290 b t v rfl rfl rfl rfl) rfl,aG.g (gH (m:=4) (sz:=1) underlying87 ⟨_,h,H⟩ rfl rfl rfl (by decide)),aG.g (gH (m:=3) (sz:=1) underlying87 ⟨_,h,H⟩ rfl rfl rfl (by decide)),aG.g (gH (m:=2) (sz:=1) underlying87 ⟨_,h,H⟩ rfl rfl rfl (by decide)),aG.g (gH (m:=1) (sz:=1) underlying87 ⟨_,h,H⟩ rfl rfl rfl (by decide))⟩ (.cf [2,1] [] (.d (cI y2.1)) [.o 1 (.row 89 [.d (cI y2.2.count),.d (cI (nth y2.2.aX 0)),.d (cI (nth y2.2.aX 1)),.d (cI (nth y2.2.aX 2)),.d (cI (nth y2.2.aX 3)),.d (cI (nth y2.2.aX 4))])] yj f (.Z 9 [] rfl F)))) (λa=>.V 10 [.l y.2.1] rfl (.A 3 [] rfl (.zi a 3)) (.A 1 [] rfl (.zi a y.2.2))))
def Eh{H:LQ aa}{r:fE}:oK H=some r->aR prog 22 [au 12 aa.row H] (rE (λr=>.agg (fE.row r)) r):=
 have⟨_,u,_,v,_⟩:=I1;.S func22 rfl ntmps22 results22 rfl λS y F=>.A 20 [.r 0,.l H,.r 1,.l H] rfl (.lq [2,3,9,10] (λ⟨b,j,m,o,q,s⟩=>[(11,.d (cI b))]) (λ⟨b,j,m,o,q,s⟩=>[.c 1 1 (.d (cI j)),.c 1 2 (.d (cI m)),.c 1 3 (.d (cI o)),.c 1 4 (.d (cI q)),.c 1 5 (.d (cI s))]) rfl rfl (λ⟨b,j,m,o,q,s⟩ q1 t=>.V 5 [] rfl (aN λz=>bA λN B=>bA λy2 C=>.V 21 [.x z,.r 2,.k gE B,.K gE C] rfl (aN λD=>aN λE=>aN λG=>aN λI=>aN λJ=>aN λL=>.AP 19 [.p 10,.g (.ref 1 (1+((nth H b.toNat).kind).toNat)),.f 14 (.d (cI (nth ([j,m,o,q,s]:LQ Int) ((nth H b.toNat).kind).toNat))),.h G,.g (.ref 1 (1+((nth H b.toNat).kind).toNat)),.w 7 (pS [.c 1 1 (.d (cI (nth (uU ([j,m,o,q,s]:LQ Int) 5 ((nth H b.toNat).kind).toNat ((nth ([j,m,o,q,s]:LQ Int) ((nth H b.toNat).kind).toNat)+((nth H b.toNat).aX))) 0))),.c 1 2 (.d (cI (nth (uU ([j,m,o,q,s]:LQ Int) 5 ((nth H b.toNat).kind).toNat ((nth ([j,m,o,q,s]:LQ Int) ((nth H b.toNat).kind).toNat)+((nth H b.toNat).aX))) 1))),.c 1 3 (.d (cI (nth (uU ([j,m,o,q,s]:LQ Int) 5 ((nth H b.toNat).kind).toNat ((nth ([j,m,o,q,s]:LQ Int) ((nth H b.toNat).kind).toNat)+((nth H b.toNat).aX))) 2))),.c 1 4 (.d (cI (nth (uU ([j,m,o,q,s]:LQ Int) 5 ((nth H b.toNat).kind).toNat ((nth ([j,m,o,q,s]:LQ Int) ((nth H b.toNat).kind).toNat)+((nth H b.toNat).aX))) 3))),.c 1 5 (.d (cI (nth (uU ([j,m,o,q,s]:LQ Int) 5 ((nth H b.toNat).kind).toNat ((nth ([j,m,o,q,s]:LQ Int) ((nth H b.toNat).kind).toNat)+((nth H b.toNat).aX))) 4)))]),.h L] rfl ⟨.e (W8 (n:=5) (off:=1) (i:=((nth H b.toNat).kind).toNat) (l:=([j,m,o,q,s]:LQ Int)) (c1:=cI) (a:=(nth ([j,m,o,q,s]:LQ Int) ((nth H b.toNat).kind).toNat)+((nth H b.toNat).aX)) rfl rfl rfl rfl rfl J sz_3) rfl,aG.g (W6 (off:=1) (i:=(nth H b.toNat).kind) underlying87 ⟨_,u,v⟩ rfl rfl I),aG.g (q_loadK (n:=5) (off:=1) (i:=((nth H b.toNat).kind).toNat) (l:=([j,m,o,q,s]:LQ Int)) (c1:=cI) NK rfl rfl rfl E),aG.g (W6 (off:=1) (i:=(nth H b.toNat).kind) underlying87 ⟨_,u,v⟩ rfl rfl D),(show dB _ _=true by kernel_rfl)⟩ (.tl 2 0 t y)) (aN λM=>.A 6 [.h M] rfl (.tl 2 0 t y))) (.A 6 [] rfl (.R1 F t))))
def HU{v0:LQ uA}{r:Batch×(LQ ai)×Int}:rD v0=some r->aR prog 6 [au 1 eW v0] (rE (λr=>.dp [.agg (Batch.row r.1),au 4 ai.row r.2.1,cI r.2.2]) r):=
 .S func6 rfl ntmps6 results6 rfl λS a F=>bA λy c=>.V 25 [.r 0,.k Fs c,.r 1] rfl (.Z 8 [] rfl F) (bA λy2 f=>.V 19 [.k pN f] rfl (.Z 8 [] rfl F) (bA λy3 e=>.V 21 [.k Eg e] rfl (.Z 8 [] rfl F) (bA λy4 q=>.V 18 [.k CB q,.r 2] rfl (.Z 8 [] rfl F) (bA λy5 i=>.AP 17 [.p 11,.k Eh i,.b (!(jy (fE.gn y4.1) (fE.gn y5))),.l y3.1] rfl ⟨aG.g (Sf fg_89 rfl rfl (xs:=fE.gn y4.1) (ys:=fE.gn y5) rfl rfl rfl rfl),(show dB _ _=true by kernel_rfl)⟩ (.I rfl (.Z 7 [] rfl F) (.A 8 [.l y3.1] rfl (.bj (ι:=Unit) [2,5,9,10] (λ_=>[]) (λ_=>[]) (λs=>wT y y3=some r) (λ_=>.Z 15 [] rfl F) (λo j=>.lq [2,5,9,10,67,68] (λB=>[(69,.d (cI B))]) (λ_=>[]) rfl rfl (λB q1 H=>.V 5 [] rfl (aN λm=>.V 18 [.x m,.r 3] rfl (.A 7 [] rfl (.R1 F H)) (aN λn=>.A 6 [.h n] rfl (.tl 3 0 H a))) (.A 1 [] rfl (GO H (.zi j ()))))))))))))
def uq{q:aM}{r:aM}:og q=some r->aR prog 8 [.agg (aM.row q)] (rE (λr=>.agg (aM.row r)) r):=
 have⟨_,n,V,Z,i⟩:=GP;have⟨_,a,j,b,k⟩:=Sn;have⟨_,l,o,m,c⟩:=pd;have⟨_,h,e,H,f⟩:=K9;have⟨_,s,u,t,g⟩:=pC;.S func8 rfl ntmps8 results8 rfl λS B F=>aN λv=>aN λw=>aN λx=>aN λy=>aN λz=>aN λA=>.AP 39 [.r 0,.r 1,.p 29,.d (.e0 3),.d (au 3 Range.row q.aw.seen),.d (.e0 12),.d (au 12 aa.row q.aw.open_),.d (.e0 4),.d (au 4 Head.row q.aw.aZ),.d (.e0 12),.d (au 12 bC.row q.usages),.d (.e0 12),.d (au 12 aa.row q.bc),.d (.e0 4),.d (au 4 ai.row q.cX)] rfl ⟨iG (l':=q.cX) (row:=ai.row) underlying32 h e H rfl (by rw[f];decide) rfl (.inl rfl) rfl rfl A,(H▸bu underlying32 h),iG (l':=q.bc) (row:=aa.row) underlying27 l o m rfl (by rw[c];decide) rfl (.inl rfl) rfl rfl z,(m▸bu underlying27 l),iG (l':=q.usages) (row:=bC.row) underlying31 n V Z rfl (by rw[i];decide) rfl (.inl rfl) rfl rfl y,(Z▸bu underlying31 n),iG (l':=q.aw.aZ) (row:=Head.row) underlying28 a j b rfl (by rw[k];decide) rfl (.inl rfl) rfl rfl x,(b▸bu underlying28 a),iG (l':=q.aw.open_) (row:=aa.row) underlying27 l o m rfl (by rw[c];decide) rfl (.inl rfl) rfl rfl w,(m▸bu underlying27 l),iG (l':=q.aw.seen) (row:=Range.row) underlying26 s u t rfl (by rw[g];decide) rfl (.inl rfl) rfl rfl v,(t▸bu underlying26 s),(show dB _ _=true by kernel_rfl)⟩ (.R F)
def Ei{a:Batch}{r:Head}:sK a=some r->aR prog 134 [.agg (Batch.row a)] (rE (λr=>.agg (Head.row r)) r):=
 .S func134 rfl ntmps134 results134 rfl λS h F=>.Z 19 [.r 0,.r 1,.l a.records] rfl F
def Fu{a:Batch}{r:Int}:ql a=some r->aR prog 57 [.agg (Batch.row a)] (rE cI r):=
 .S func57 rfl ntmps57 results57 rfl λS H F=>bA λy c=>bA λy2 f=>.V 18 [.r 0,.k Ei c,.k rb f] rfl (.Z 5 [] rfl F) (.A 10 [.l a.records] rfl (.lq [1,15,16] (λe=>[(17,.d (cI e))]) (λ_=>[]) rfl rfl (λe q1 b=>.V 5 [] rfl (aN λg=>bA λy3 i=>.V 26 [.x g,.r 1,.k gT i] rfl (.A 5 [] rfl (.R1 F b)) (.V 9 [] rfl (.A 4 [] rfl (.R1 F b)) (aN λj=>.A 6 [.h j] rfl (.tl 1 0 b H)))) (.A 5 [] rfl (.R1 F b)))))
def Fv{u:dH}{c:Int}{r:Int}:mS u c=some r->aR prog 58 [.agg (dH.row u),cI c] (rE cI r):=
 .S func58 rfl ntmps58 results58 rfl λS g F=>.V 15 [.r 0] rfl (.Z 4 [] rfl F) (aN λH=>.A 11 [.l u.aZ,.h H] rfl (.lq [1,2] (λa=>[(5,.d (cI a))]) (λ_=>[]) rfl rfl (λa q1 b=>.V 6 [] rfl (aN λe=>.V 14 [.x e] rfl (aN λf=>aN λi=>.A 11 [.x f,.h i] rfl (.R1 F b)) (aN λm=>.A 7 [.h m] rfl (.zl b))) (.A 5 [] rfl (.R1 F b)))))
def zt{t:aa}{h:eD}{r:Int}:kJ t h=some r->aR prog 136 [.agg (aa.row t),.agg (eD.row h)] (rE cI r):=
 .S func136 rfl ntmps136 results136 rfl λS H F=>.V 22 [.r 0,.r 1] rfl (.Z 4 [] rfl F) (.Z 5 [] rfl F)
def sQ{x h:Int}{r:Bool}:fg x h=some r->aR prog 138 [cI x,cI h] (rE cB r):=
 .S func138 rfl ntmps138 results138 rfl λS H F=>.Z 22 [] rfl F
def w9{h I:Range}{r:Bool}:mU h I=some r->aR prog 254 [.agg (Range.row h),.agg (Range.row I)] (rE cB r):=
 .S func254 rfl ntmps254 results254 rfl λS a F=>aN λc=>.Z 23 [.r 0,.r 1,.H c] rfl F
def sR{h b:Int}{H:(LQ aa)}{c:LQ ai}{r:(LQ ai)}:lX h b H c=some r->bg prog 137 [.d (cI h),.d (cI b),.ref 0 0,.ref 1 0] ⟨[.row 32 [.dA 4 (c.map ai.row) 0],.row 27 [.d (au 12 aa.row H)]],[kG c.length]⟩ (QE (.d (.dp [])) ⟨[.row 32 [.dA 4 (r.map ai.row) 0],.row 27 [.d (au 12 aa.row H)]],[kG r.length]⟩):=
 .S func137 rfl ntmps137 results137 rfl λS i F=>aN λe=>aN λf=>aN λg=>.AD 20 [.p 15,.x e,.x f,.m [(⟨(nth H h.toNat).source,(nth H h.toNat).aJ,h,b⟩:ai)],.a g] rfl (.Kf F [0,1] [0])
def yk{x h H:Int}{a:LQ Range}{q:Nat}{r:Bool}:jS x h H a=some r->bg prog 391 [.d (cI x),.ref 0 0,.ref 1 0,.ref 2 0] ⟨[.row 26 [.vc 0 q],.row 3 [.d (cI h)],.row 3 [.d (cI H)]],[Range.xF q a]⟩ (QE (.d (cB r)) ⟨[.row 26 [.vc 0 q],.row 3 [.d (cI h)],.row 3 [.d (cI H)]],[Range.xF q a]⟩):=
 have⟨_,b,_,c,_⟩:=pC;.S func391 rfl ntmps391 results391 rfl λS k F=>aN λe=>aN λj=>.BP 29 [.g (.vp 0 q x.toNat 0),.f 20 (.d (.agg (Range.row (nth a x.toNat)))),.r 3] rfl ⟨aG.g (kg (l:=a) (row:=Range.row) (cs:=(Range.row (nth a x.toNat))) BV GV rfl rfl j (zae rfl) rfl),aG.g (kT (l:=a) (row:=Range.row) (i:=x) underlying26 b c rfl rfl rfl e)⟩ (lf (.jI (env':=[(20,_),(24,_)]) rfl rfl rfl ⟨.inr (.inl rfl),⟨.inr (.inr ⟨_,_,rfl,rfl⟩),trivial⟩⟩ rfl (λm=>aG.g (dV rfl rfl rfl))) (.A 3 [] rfl (.K F [0,1,2] [0])))
def AY{k c e:Int}{f:LQ Range}{q:Nat}{r:Int}:lY k c e f=some r->bg prog 390 [.d (cI k),.xl 391 [.ref 0 0,.ref 1 0,.ref 2 0]] ⟨[.row 26 [.vc 0 q],.row 3 [.d (cI c)],.row 3 [.d (cI e)]],[Range.xF q f]⟩ (QE (.d (cI r)) ⟨[.row 26 [.vc 0 q],.row 3 [.d (cI c)],.row 3 [.d (cI e)]],[Range.xF q f]⟩):=
 .S func390 rfl ntmps390 results390 rfl λS s F=>.A 12 [] rfl (.lq [1] (λ⟨H,m⟩=>[(5,.d (cI H)),(6,.d (cI m))]) (λ_=>[]) rfl rfl (λ⟨H,m⟩ q1 j=>.V 7 [] rfl (aN λl=>aN λn=>bA λy o=>.BP 16 [.h l,.d (cK .u64 (IntKind.wrap .u64 (H+m))),.d (cK .u64 (Int.fdiv (IntKind.wrap .u64 (H+m)) (2 ^ (min (Int.toNat (1)) 64)))),.i (IntKind.wrap .i64 (Int.fdiv (IntKind.wrap .u64 (H+m)) (2 ^ (min (Int.toNat (1)) 64))))] rfl ⟨aG.g (qG underlying294 underlying3 rfl rfl),aG.g (Wn (a:=IntKind.wrap .u64 (H+m)) (b:=1) rfl rfl n rfl),aG.g (qG underlying3 underlying294 rfl rfl)⟩ (.cg [0,1,2] [0] (.d (cB y)) [] yk o (.V 2 [] rfl (aN λp=>.A 6 [.h p] rfl (.zl j)) (.A 5 [] rfl (.zl j))))) (.A 6 [] rfl (.K1 F j [0,1,2] [0]))))
def xa{c f:Int}{a:LQ Range}{q:Nat}{r:Int}:iI c f a=some r->bg prog 252 [.vc 0 q,.d (cI c),.d (cI f)] ⟨[],[Range.xF q a]⟩ (QE (.d (cI r)) ⟨[],[Range.xF q a]⟩):=
 .S func252 rfl ntmps252 results252 rfl λS H F=>bA λy h=>.BP 12 [.r 0,.r 1,.r 2,.i (a.length:Int),.g (.xl 391 [.ref 0 0,.ref 1 0,.ref 2 0])] rfl ⟨aG.g (vM rfl),aG.g (xz (l:=a) (row:=Range.row) underlying26 rfl rfl)⟩ (.cf [0,1,2] [0] (.d (cI y)) [] AY h (.A 2 [] rfl (.K F [] [0])))
def Jm{c H:Int}{a:LQ Range}{q:Nat}{r:Bool}:tI c H a=some r->bg prog 139 [.vc 0 q,.d (cI c),.d (cI H)] ⟨[],[Range.xF q a]⟩ (QE (.d (cB r)) ⟨[],[Range.xF q a]⟩):=
 have⟨_,b,_,e,_⟩:=pC;.S func139 rfl ntmps139 results139 rfl λS t F=>bA λy j=>.B 9 [] rfl (.cf [] [0] (.d (cI y)) [] xa j (bA λy2 m=>aN λn=>aN λo=>aN λp=>aN λs=>.AP 33 [.k sQ m,.i (a.length:Int),.g (.vp 0 q y.toNat 0),.f 15 (.d (cI (nth a y.toNat).source)),.g (.vp 0 q y.toNat 0),.f 6 (.d (cI (nth a y.toNat).from_))] rfl ⟨λh=>aG.g (xA (l:=a) (row:=Range.row) NK rfl rfl (s h) rfl),λh=>aG.g (kT (l:=a) (row:=Range.row) (i:=y) underlying26 b e rfl rfl rfl (p h)),λh=>aG.g (xA (l:=a) (row:=Range.row) NK rfl rfl (o h) rfl),λh=>aG.g (kT (l:=a) (row:=Range.row) (i:=y) underlying26 b e rfl rfl rfl (n h)),λh=>aG.g (xz (l:=a) (row:=Range.row) underlying26 rfl rfl)⟩ (.K F [] [0])))
def Ej{k v:Int}{z:LQ Range}{C:Nat}{r:(LQ Range)}:gN k v z=some r->bg prog 140 [.vc 0 C,.d (cI k),.d (cI v)] ⟨[],[Range.xF C z]⟩ (QE (.vc 1 r.length) ⟨[],[yN ([]:LQ Range).length,Range.uY r]⟩):=
 have⟨_,q,Z,j,_⟩:=pC;.S func140 rfl ntmps140 results140 rfl λS E F=>bA λy G=>.B 9 [] rfl (.cf [] [0] (.d (cI y)) [] xa G (bA λy2 J=>.BP 11 [.n (.vc 1 ([(⟨k,v,v⟩:Range)]:LQ Range).length) (Range.uY ([(⟨k,v,v⟩:Range)]:LQ Range))] rfl (.e (zS (n:=1) (l0:=([(⟨k,v,v⟩:Range)]:LQ Range)) (row:=Range.row) underlying26 q j Z rfl rfl rfl rfl rfl) rfl) (.cf [] [0,1] (.vc 2 y2.length) [.t 0 (yN ([]:LQ Range).length),.T (Range.uY y2)] Fm J (.A 2 [] rfl (.sj (ι:=LQ Range) [7] (λb=>[(0,.vc 2 b.length)]) (λb=>[.t 2 (Range.uY b)]) (λs=>iq y s=some r) (λb=>aN λL=>aN λM=>aN λN=>aN λO=>aN λP=>bA λy3 Q=>.AP 19 [.p 14,.H L,.g (.vp 2 b.length (y-1).toNat 0),.f 9 (.d (.agg (Range.row (nth b (y-1).toNat)))),.g (.vp 2 b.length y.toNat 0),.f 5 (.d (.agg (Range.row (nth b y.toNat)))),.K w9 Q] rfl ⟨λc=>aG.g (kg (l:=b) (row:=Range.row) (cs:=(Range.row (nth b y.toNat))) BV GV rfl rfl (P c) (zae rfl) rfl),λc=>aG.g (kT (l:=b) (row:=Range.row) (i:=y) underlying26 q j rfl rfl rfl (O c)),λc=>aG.g (kg (l:=b) (row:=Range.row) (cs:=(Range.row (nth b (y-1).toNat))) BV GV rfl rfl (N c) (zae rfl) rfl),λc=>aG.g (kT (l:=b) (row:=Range.row) (i:=y-1) underlying26 q j rfl rfl rfl (M c)),(show dB _ _=true by kernel_rfl)⟩ (.I rfl (aN λR=>aN λU=>aN λV=>aN λW=>aN λX=>aN λY=>bA λy4 qA=>.BP 19 [.h R,.g (.vp 2 b.length y.toNat 0),.f 10 (.d (cI (nth b y.toNat).uW)),.g (.vp 2 b.length (y-1).toNat 0),.w 7 (pS [.t 2 (Range.xF b.length (b.set (y-1).toNat (⟨(nth b (y-1).toNat).source,(nth b (y-1).toNat).from_,(nth b y.toNat).uW⟩:Range)))]),.h Y] rfl ⟨.e (BI (l:=b) (row:=Range.row) (a:=(⟨(nth b (y-1).toNat).source,(nth b (y-1).toNat).from_,(nth b y.toNat).uW⟩:Range)) rfl rfl X rfl rfl sz_3 rfl (zae rfl) rfl) rfl,aG.g (kT (l:=b) (row:=Range.row) (i:=y-1) underlying26 q j rfl rfl rfl W),aG.g (xA (l:=b) (row:=Range.row) NK rfl rfl V rfl),aG.g (kT (l:=b) (row:=Range.row) (i:=y) underlying26 q j rfl rfl rfl U)⟩ (.cf [] [2] (.vc 3 y4.length) [.t 2 (yN ([]:LQ Range).length),.T (Range.uY y4)] wW qA (.A 7 [] rfl (.K F [] [0,3])))) (.A 6 [] rfl (.K F [] [0,2])))) (λD=>aN λL5=>aN λYX=>aN λYY=>aN λYZ=>aN λY0=>aN λY1=>bA λy5 yg=>.AP 21 [.p 17,.h L5,.i (y2.length:Int),.g (.vp 2 y2.length y.toNat 0),.f 10 (.d (.agg (Range.row (nth y2 y.toNat)))),.H YZ,.g (.vp 2 y2.length (y+1).toNat 0),.f 5 (.d (.agg (Range.row (nth y2 (y+1).toNat)))),.K w9 yg] rfl ⟨λc=>aG.g (kg (l:=y2) (row:=Range.row) (cs:=(Range.row (nth y2 (y+1).toNat))) BV GV rfl rfl (Y1 c) (zae rfl) rfl),λc=>aG.g (kT (l:=y2) (row:=Range.row) (i:=y+1) underlying26 q j rfl rfl rfl (Y0 c)),λc=>aG.g (kg (l:=y2) (row:=Range.row) (cs:=(Range.row (nth y2 y.toNat))) BV GV rfl rfl (YY c) (zae rfl) rfl),λc=>aG.g (kT (l:=y2) (row:=Range.row) (i:=y) underlying26 q j rfl rfl rfl (YX c)),aG.g (xz (l:=y2) (row:=Range.row) underlying26 rfl rfl),(show dB _ _=true by kernel_rfl)⟩ (.I rfl (aN λY2=>aN λY3=>aN λY4=>aN λm=>aN λo=>aN λu=>aN λx=>bA λy6 HH=>.BP 20 [.h Y2,.g (.vp 2 y2.length (y+1).toNat 0),.f 11 (.d (cI (nth y2 (y+1).toNat).uW)),.g (.vp 2 y2.length y.toNat 0),.w 8 (pS [.t 2 (Range.xF y2.length (y2.set y.toNat (⟨(nth y2 y.toNat).source,(nth y2 y.toNat).from_,(nth y2 (y+1).toNat).uW⟩:Range)))]),.h u,.h x] rfl ⟨.e (BI (l:=y2) (row:=Range.row) (a:=(⟨(nth y2 y.toNat).source,(nth y2 y.toNat).from_,(nth y2 (y+1).toNat).uW⟩:Range)) rfl rfl o rfl rfl sz_3 rfl (zae rfl) rfl) rfl,aG.g (kT (l:=y2) (row:=Range.row) (i:=y) underlying26 q j rfl rfl rfl m),aG.g (xA (l:=y2) (row:=Range.row) NK rfl rfl Y4 rfl),aG.g (kT (l:=y2) (row:=Range.row) (i:=y+1) underlying26 q j rfl rfl rfl Y3)⟩ (.cf [] [2] (.vc 3 y6.length) [.t 2 (yN ([]:LQ Range).length),.T (Range.uY y6)] wW HH (.A 2 [] rfl (lf (.Sl [] [0,1,3] (env':=[(0,.vc 2 y6.length),(7,.d (cI y))]) (st':=⟨[],[yN ([]:LQ Range).length,Range.uY ([(⟨k,v,v⟩:Range)]:LQ Range),Range.uY y6]⟩) E rfl rfl rfl rfl rfl rfl rfl rfl (.k2 rfl rfl (.nil))) (.zi D y6))))) (.A 1 [] rfl (.zi D y2)))))))))
def Ek{w:LQ Range}{H:LQ aa}{r:(LQ Range)×(LQ aa)×(LQ ai)}:oN w H=some r->aR prog 61 [au 3 Range.row w,au 12 aa.row H] (rE (λr=>.dp [au 3 Range.row r.1,au 12 aa.row r.2.1,au 4 ai.row r.2.2]) r):=
 .S func61 rfl ntmps61 results61 rfl λS v F=>bA λz C=>.B 10 [.r 0] rfl (.cf [] [] (.vc 0 z.length) [.T (Range.uY z)] wX C (.AP 22 [.r 1,.g (.xl 137 [.ref 1 0,.ref 0 0]),.l H] rfl (aG.g (vM rfl)) (lf (.tok (i:=8) (e:=94) (sz:=12) rfl) (lf (.BG (o:=1) (ci:=0) (e:=195) (sz:=4) rfl rfl) (.bj (ι:=LQ Range×LQ aa×LQ ai) [9] (λ⟨G,y,q⟩=>[(7,.vc 0 G.length),(8,.dA 12 (y.map aa.row) 1)]) (λ⟨G,y,q⟩=>[.c 1 0 (.dA 4 (q.map ai.row) 2),.t 0 (Range.uY G),.t 1 (cF y.length),.t 2 (kG q.length)]) (λs=>oL s.1 s.2.1 s.2.2=some r) (λ⟨G,y,q⟩=>.AD 10 [.p 6] rfl (lf (.tw (l:=G) (row:=Range.row) (i:=4) rfl rfl) (.R F))) (λU D=>.lq [3,9,10,17] (λ⟨n,b,f,j⟩=>[(7,.vc 0 n.length),(8,.dA 12 (b.map aa.row) 1),(18,.d (cI f))]) (λ⟨n,b,f,j⟩=>[.c 1 0 (.dA 4 (j.map ai.row) 2),.t 0 (Range.uY n),.t 1 (cF b.length),.t 2 (kG j.length)]) rfl rfl (λ⟨n,b,f,j⟩ q1 u=>.V 5 [] rfl (aN λE=>bA λy2 I=>.V 28 [.x E,.r 2,.k sQ I] rfl (bA λy3 J=>.B 3 [] rfl (.cg [1,0] [2] (.d (.dp [])) [.c 1 0 (.dA 4 (y3.map ai.row) 2),.t 2 (kG y3.length)] sR J (aN λK=>.A 7 [.h K] rfl (.tl 2 3 u v)))) (bA λy4 L=>.B 7 [] rfl (.cf [] [0] (.d (cB y4)) [] Jm L (.V 2 [] rfl (bA λy5 M=>.B 3 [] rfl (.cg [1,0] [2] (.d (.dp [])) [.c 1 0 (.dA 4 (y5.map ai.row) 2),.t 2 (kG y5.length)] sR M (aN λN=>.A 7 [.h N] rfl (.tl 2 3 u v)))) (bA λy6 O=>.B 7 [] rfl (.cf [] [0] (.vc 3 y6.length) [.t 0 (yN (([]:LQ Range).length)),.T (Range.uY y6)] Ej O (aN λP=>aN λQ=>.A 15 [.m [nth H f.toNat],.a P,.h Q] rfl (lf (.Sl [0,1] [3,1,2] (env':=[(3,.ref 0 0),(7,.vc 0 y6.length),(8,.dA 12 ((b++([nth H f.toNat]:LQ aa)).map aa.row) 1),(9,.ref 1 0),(10,.xl 137 [.ref 1 0,.ref 0 0]),(17,.d (cI (H.length:Int))),(18,.d (cI (f+1)))]) (st':=⟨[.row 27 [.d (au 12 aa.row H)],.row 32 [.dA 4 (j.map ai.row) 2]],[Range.uY y6,cF ((b++([nth H f.toNat]:LQ aa)).length),kG j.length]⟩) v rfl rfl rfl rfl rfl rfl rfl rfl (.k7 rfl rfl rfl rfl rfl rfl rfl (.nil))) (.zl u))))))))) (.A 1 [] rfl (GO u (.zi D (n,b,j)))))))))))
def tP{W:Int}{r:Bool}:nw W=some r->aR prog 143 [cI W] (rE cB r):=
 .S func143 rfl ntmps143 results143 rfl λS h F=>.Z 11 [] rfl F
def mD{W v:Int}{r:Int}:fK W v=some r->aR prog 64 [cI W,cI v] (rE cI r):=
 .S func64 rfl ntmps64 results64 rfl λS h F=>bA λy d=>bA λy2 f=>.V 21 [.k tP d,.k tP f] rfl (.V 5 [] rfl (.Z 4 [] rfl F) (.Z 5 [] rfl F)) (.V 6 [] rfl (.Z 4 [] rfl F) (.V 8 [] rfl (.Z 4 [] rfl F) (.V 8 [] rfl (.Z 4 [] rfl F) (.Z 5 [] rfl F))))
def HV{u:LQ Int}{r:Int}:wu u=some r->aR prog 112 [au 1 rI u] (rE cI r):=
 .S func112 rfl ntmps112 results112 rfl λS e F=>.A 16 [.l u] rfl (.lq [3,6,7] (λH=>[(8,.d (cI H))]) (λ_=>[]) rfl rfl (λH q1 b=>.V 5 [] rfl (aN λc=>.V 15 [.x c] rfl (.A 5 [] rfl (.R1 F b)) (aN λa=>.A 6 [.h a] rfl (.zl b))) (.A 6 [] rfl (.R1 F b))))
def yl{h I:aa}{r:Int}:jT h I=some r->aR prog 144 [.agg (aa.row h),.agg (aa.row I)] (rE cI r):=
 .S func144 rfl ntmps144 results144 rfl λS a F=>bA λy d=>bA λy2 f=>bA λy3 H=>bA λy4 q=>.AD 28 [.r 0,.r 1,.p 18,.k mD d,.k mD f,.k mD H,.m [y,y2,y3],.k HV q] rfl (.R F)
def iy{t:aa}{r:aI}:cC t=some r->aR prog 147 [.agg (aa.row t)] (rE (λr=>.agg (aI.row r)) r):=
 .S func147 rfl ntmps147 results147 rfl λS h F=>.Z 14 [.r 0,.r 1] rfl F
def ym{t:aa}{a:aI}{r:Bool}:nR t a=some r->bg prog 401 [.d (.agg (aa.row t)),.ref 0 0] ⟨[.row 320 [.d (cI a.source),.d (cI a.number)]],[]⟩ (QE (.d (cB r)) ⟨[.row 320 [.d (cI a.source),.d (cI a.number)]],[]⟩):=
 .S func401 rfl ntmps401 results401 rfl λS H F=>bA λy h=>.AP 14 [.r 1,.p 5,.k iy h,.b (jy (aI.gn y) (aI.gn a))] rfl ⟨aG.g (R4 Xq rfl rfl (xs:=aI.gn y) (ys:=aI.gn a) rfl rfl rfl rfl),(show dB _ _=true by kernel_rfl)⟩ (.K F [0] [])
def zu{t:aa}{r:aa}:oO t=some r->aR prog 531 [.agg (aa.row t)] (rE (λr=>.agg (aa.row r)) r):=
 .S func531 rfl ntmps531 results531 rfl λS h F=>.Z 19 [.r 0,.r 1] rfl F
def nV{t:aa}{r:Int}:fh t=some r->aR prog 148 [.agg (aa.row t)] (rE cI r):=
 .S func148 rfl ntmps148 results148 rfl λS h F=>bA λy d=>.Z 20 [.r 0,.k gT d] rfl F
def oT{t:aa}{r:bm}:ir t=some r->aR prog 532 [.agg (aa.row t)] (rE (λr=>.agg (bm.row r)) r):=
 .S func532 rfl ntmps532 results532 rfl λS h F=>bA λy d=>.AD 23 [.r 0,.r 1,.p 13,.k iy d] rfl (.R F)
def zw{a:LQ aa}{r:aa×Bool}:kK a=some r->aR prog 402 [au 12 aa.row a] (rE (λr=>.dp [.agg (aa.row r.1),cB r.2]) r):=
 .S func402 rfl ntmps402 results402 rfl λS j F=>.V 12 [.r 0,.l a] rfl (.Z 6 [] rfl F) (aN λm=>bA λn o=>.A 22 [.x m,.k zu o,.r 1,.l a] rfl (.bj (ι:=Int) [2,4] (λD=>[]) (λD=>[.c 1 6 (.d (cI D))]) (λs=>lj n s=some r) (λD=>bA λy2 q=>.V 7 [.k nV q] rfl (.Z 6 [] rfl F) (.Z 7 [] rfl F)) (λJ t=>.lq [0,2,4,16,17] (λ⟨e,f⟩=>[(18,.d (cI e))]) (λ⟨e,f⟩=>[.c 1 6 (.d (cI f))]) rfl rfl (λ⟨e,f⟩ q1 i=>.V 5 [] rfl (aN λu=>bA λy3 v=>bA λy4 w=>aN λz=>bA λy5 B=>aN λC=>.AP 40 [.x u,.r 2,.p 25,.K nV v,.K oT w,.y z,.K oT B,.b (!(jy (bm.gn y4) (bm.gn y5))),.H C] rfl ⟨λL=>aG.g (Sf fg_714 rfl rfl (xs:=bm.gn y4) (ys:=bm.gn y5) rfl rfl rfl rfl),(show dB _ _=true by kernel_rfl)⟩ (.I rfl (.A 6 [] rfl (.R1 F i)) (aN λE=>aN λG=>.A 15 [.h E,.h G] rfl (.tl 2 0 i j)))) (.A 1 [] rfl (GO i (.zi t f)))))))
def wC{a:LQ aa}{r:aa×Bool}:iu a=some r->aR prog 271 [au 12 aa.row a] (rE (λr=>.dp [.agg (aa.row r.1),cB r.2]) r):=
 .S func271 rfl ntmps271 results271 rfl λS f F=>.A 12 [.r 0,.l a] rfl (.bj (ι:=Unit) [0,2] (λ_=>[]) (λ_=>[]) (λs=>jo a=some r) (λ_=>bA λy i=>.Z 9 [.k zw i] rfl F) (λq j=>.lq [0,2,6,7] (λc=>[(8,.d (cI c))]) (λ_=>[]) rfl rfl (λc q1 e=>.V 5 [] rfl (aN λm=>aN λn=>aN λo=>.AP 30 [.x m,.r 1,.h n,.l a,.H o,.b (((nth a c.toNat).last) != (c==((a.length:Int) - 1)))] rfl (λt=>aG.g (Wp rfl underlying4 rfl)) (.I rfl (.A 6 [] rfl (.R1 F e)) (aN λp=>.A 6 [.h p] rfl (.tl 1 0 e f)))) (.A 1 [] rfl (GO e (.zi j ()))))))
def CC{H:aI}{a:LQ aa}{q:Nat}{r:Int}:qQ H a=some r->bg prog 400 [.vc 0 q,.xl 401 [.ref 0 0]] ⟨[.row 320 [.d (cI H.source),.d (cI H.number)]],[aa.DJ q a]⟩ (QE (.d (cI r)) ⟨[.row 320 [.d (cI H.source),.d (cI H.number)]],[aa.DJ q a]⟩):=
 have⟨_,e,_,j,_⟩:=pd;.S func400 rfl ntmps400 results400 rfl λS p F=>.AP 12 [.i (a.length:Int)] rfl (aG.g (xz (l:=a) (row:=aa.row) underlying27 rfl rfl)) (.lq [0,1,7] (λb=>[(8,.d (cI b))]) (λ_=>[]) rfl rfl (λb q1 c=>.V 5 [] rfl (aN λk=>aN λm=>bA λy n=>.BP 15 [.g (.vp 0 q b.toNat 0),.f 1 (.d (.agg (aa.row (nth a b.toNat))))] rfl ⟨aG.g (kg (l:=a) (row:=aa.row) (cs:=(aa.row (nth a b.toNat))) v8 BW rfl rfl m (zae rfl) rfl),aG.g (kT (l:=a) (row:=aa.row) (i:=b) underlying27 e j rfl rfl rfl k)⟩ (.cg [0] [] (.d (cB y)) [] ym n (.V 1 [] rfl (.A 5 [] rfl (.K1 F c [0] [0])) (aN λo=>.A 6 [.h o] rfl (.zl c))))) (.A 5 [] rfl (.K1 F c [0] [0]))))
def AZ{v:aI}{a:LQ aa}{q:Nat}{r:Int×Int}:l7 v a=some r->bg prog 268 [.vc 0 q,.d (.agg (aI.row v))] ⟨[],[aa.DJ q a]⟩ (QE (.d (.dp [cI r.1,cI r.2])) ⟨[],[aa.DJ q a]⟩):=
 have⟨_,e,_,j,_⟩:=pd;.S func268 rfl ntmps268 results268 rfl λS u F=>bA λy m=>.BP 10 [.r 0,.g (.xl 401 [.ref 0 0])] rfl (aG.g (vM rfl)) (.cf [0] [0] (.d (cI y)) [] CC m (.V 8 [] rfl (.A 5 [] rfl (.K F [] [0])) (.A 8 [] rfl (.lq [0,3,4] (λk=>[(5,.d (cI k))]) (λ_=>[]) rfl rfl (λk q1 c=>aN λn=>aN λo=>bA λy2 s=>.AP 18 [.p 13,.i (a.length:Int),.g (.vp 0 q k.toNat 0),.f 7 (.d (.agg (aa.row (nth a k.toNat)))),.K iy s,.b (jy (aI.gn y2) (aI.gn v))] rfl ⟨λH=>aG.g (R4 Xq rfl rfl (xs:=aI.gn y2) (ys:=aI.gn v) rfl rfl rfl rfl),λH=>aG.g (kg (l:=a) (row:=aa.row) (cs:=(aa.row (nth a k.toNat))) v8 BW rfl rfl (o H) (zae rfl) rfl),λH=>aG.g (kT (l:=a) (row:=aa.row) (i:=k) underlying27 e j rfl rfl rfl (n H)),aG.g (xz (l:=a) (row:=aa.row) underlying27 rfl rfl),(show dB _ _=true by kernel_rfl)⟩ (.I rfl (aN λt=>.A 8 [.h t] rfl (.zl c)) (.A 8 [] rfl (.K1 F c [] [0]))))))))
def ur{H p:LQ aa}{y:Bool}{v u:Nat}(B:(p.drop u).take H.length=H){r:(LQ Int)}:jU H y=some r->bg prog 270 [.vw 0 v u H.length,.d (cB y)] ⟨[],[aa.DJ v p]⟩ (QE (.d (au 1 rI r)) ⟨[],[aa.DJ v p]⟩):=
 have⟨_,C,N,_,_⟩:=I1;have⟨_,D,_,E,_⟩:=pd;.S func270 rfl ntmps270 results270 rfl λS G F=>.AP 16 [.Z (.mp 0) [.O (mo1 ([]:LQ (Int×Int)))],.i (H.length:Int)] rfl ⟨aG.g (Xg underlying27 rfl),.e kf rfl⟩ (.bj (ι:=(LQ (Int×Int))) [0,1,5] (λc=>[]) (λc=>[.o 0 (mo1 c)]) (λs=>hV H y s=some r) (λc=>.A 9 [] rfl (lf (.tok (i:=10) (e:=3) (sz:=1) rfl) (.lq [0,1,5] (λ⟨w,j⟩=>[(10,.dA 1 (w.map rI) 1),(11,.d (cI j))]) (λ⟨w,j⟩=>[.t 1 (Sw w.length)]) rfl rfl (λ⟨w,j⟩ q1 q=>.AP 19 [.d (.dp [cI ((ak c j).getD 0),cB (ak c j).isSome])] rfl (aG.g (jB (eL underlying3) (l:=c) (val:=(λx=>cI x)) (k:=j) (a0:=0) underlying485 C N (show vN (cI 0) (cI 0)from .aW _) rfl rfl rfl (λ_ _ _ h=>dm h))) (.I rfl (.A 5 [] rfl (.K1 F q [] [0])) (aN λJ=>aN λK=>aN λL=>.AP 20 [.m [(ak c j).getD 0],.a J,.g (.vp 0 v (u+((ak c j).getD 0).toNat) 0),.f 3 (.d (cB (nth H ((ak c j).getD 0).toNat).last))] rfl ⟨λz=>aG.g (UM (l:=p) (a:=H) (row:=aa.row) (lo:=u) (i:=((ak c j).getD 0).toNat) B one_4 rfl rfl (L z) rfl),λz=>aG.g (K5 (row:=aa.row) (l:=p) (i:=(ak c j).getD 0) underlying27 D E rfl rfl rfl (K z))⟩ (.I rfl (.A 5 [] rfl (.K1 F q [] [0])) (aN λM=>.A 7 [.h M] rfl (.zl q))))))))) (λX P=>.lq [0,1,5,15,16] (λ⟨b,n⟩=>[(17,.d (cI b))]) (λ⟨b,n⟩=>[.o 0 (mo1 n)]) rfl rfl (λ⟨b,n⟩ q1 q=>.V 5 [] rfl (aN λQ=>aN λR=>.AP 29 [.g (.vp 0 v (u+b.toNat) 0),.f 22 (.d (.agg (aa.row (nth H b.toNat)))),.r 1,.d (.dp [cI ((ak n (nth H b.toNat).part).getD 0),cB (ak n (nth H b.toNat).part).isSome])] rfl ⟨aG.g (jB (eL underlying3) (l:=n) (val:=(λx=>cI x)) (k:=(nth H b.toNat).part) (a0:=0) underlying485 C N (show vN (cI 0) (cI 0)from .aW _) rfl rfl rfl (λ_ _ _ h=>dm h)),aG.g (Ay (l:=p) (a:=H) (row:=aa.row) (lo:=u) (i:=b.toNat) (cs:=(aa.row (nth H b.toNat))) B v8 BW rfl rfl R (zae rfl) rfl),aG.g (K5 (row:=aa.row) (l:=p) (i:=b) underlying27 D E rfl rfl rfl Q)⟩ (.I rfl (aN λT=>.AP 12 [.W [.o 0 (mo1 (cQ n (nth H b.toNat).part b))],.h T] rfl (.e (eM (eL underlying3) (l:=n) (val:=(λx=>cI x)) (k:=(nth H b.toNat).part) (a:=b) underlying485 rfl rfl rfl (λ_ _ _ h=>dm h) rfl (.aW _)) rfl) (.tl 1 1 q G)) (aN λU=>.A 6 [.h U] rfl (.tl 1 1 q G)))) (.A 1 [] rfl (GO q (.zi P n))))))
def A0{H n:LQ aa}{c:LQ Int}{v p:Nat}(D:(n.drop p).take H.length=H){r:(LQ aa)×(LQ aa)}:pJ H c=some r->bg prog 269 [.vw 0 v p H.length,.d (au 1 rI c)] ⟨[],[aa.DJ v n]⟩ (QE (.d (.dp [au 12 aa.row r.1,au 12 aa.row r.2])) ⟨[],[aa.DJ v n]⟩):=
 have⟨_,K,C,_,_⟩:=Xl;have⟨_,E,_,G,_⟩:=pd;.S func269 rfl ntmps269 results269 rfl λS J F=>.AP 17 [.Z (.mp 0) [.O (mo2 ([]:LQ (Int×Bool)))],.l c] rfl (.e kf rfl) (lf (.tok (i:=4) (e:=94) (sz:=12) rfl) (.bj (ι:=LQ aa×(LQ (Int×Bool))) [0,5,6] (λ⟨z,w⟩=>[(4,.dA 12 (z.map aa.row) 1)]) (λ⟨z,w⟩=>[.o 0 (mo2 w),.t 1 (cF z.length)]) (λs=>mw H s.1 s.2=some r) (λ⟨z,w⟩=>.AP 8 [.i (H.length:Int)] rfl (aG.g (Xg underlying27 rfl)) (lf (.tok (i:=5) (e:=94) (sz:=12) rfl) (.lq [4,6,28,29] (λ⟨B,j⟩=>[(5,.dA 12 (B.map aa.row) 2),(30,.d (cI j))]) (λ⟨B,j⟩=>[.t 2 (cF B.length)]) rfl rfl (λ⟨B,j⟩ q1 q=>.V 5 [] rfl (aN λL=>aN λM=>.AP 19 [.g (.vp 0 v (p+j.toNat) 0),.f 12 (.d (.agg (aa.row (nth H j.toNat)))),.r 1,.b ((ak w j).getD false)] rfl ⟨aG.g (ki (eL underlying3) (l:=w) (val:=(λx=>cB x)) (k:=j) (a0:=false) underlying483 K C (show vN (cB false) (cB false)from .aW _) rfl rfl rfl (λ_ _ _ h=>dm h)),aG.g (Ay (l:=n) (a:=H) (row:=aa.row) (lo:=p) (i:=j.toNat) (cs:=(aa.row (nth H j.toNat))) D v8 BW rfl rfl M (zae rfl) rfl),aG.g (K5 (row:=aa.row) (l:=n) (i:=j) underlying27 E G rfl rfl rfl L)⟩ (.I rfl (aN λN=>aN λP=>.A 12 [.m [nth H j.toNat],.a N,.h P] rfl (.tl 1 3 q J)) (aN λQ=>.A 6 [.h Q] rfl (.tl 1 3 q J)))) (.A 8 [] rfl (.K1 F q [] [0])))))) (λo5 R=>.lq [0,5,6,12,13] (λ⟨y,lr,u⟩=>[(4,.dA 12 (y.map aa.row) 1),(14,.d (cI lr))]) (λ⟨y,lr,u⟩=>[.o 0 (mo2 u),.t 1 (cF y.length)]) rfl rfl (λ⟨y,lr,u⟩ q1 q=>.V 5 [] rfl (aN λT=>aN λU=>aN λX=>aN λY=>aN λHL=>.AP 30 [.x T,.W [.o 0 (mo2 (cQ u (nth c lr.toNat) true))],.g (.vp 0 v (p+(nth c lr.toNat).toNat) 0),.f 10 (.d (.agg (aa.row (nth H (nth c lr.toNat).toNat)))),.m [nth H (nth c lr.toNat).toNat],.a Y,.h HL] rfl ⟨aG.g (Ay (l:=n) (a:=H) (row:=aa.row) (lo:=p) (i:=(nth c lr.toNat).toNat) (cs:=(aa.row (nth H (nth c lr.toNat).toNat))) D v8 BW rfl rfl X (zae rfl) rfl),aG.g (K5 (row:=aa.row) (l:=n) (i:=nth c lr.toNat) underlying27 E G rfl rfl rfl U),.e (eM (eL underlying3) (l:=u) (val:=(λx=>cB x)) (k:=nth c lr.toNat) (a:=true) underlying483 rfl rfl rfl (λ_ _ _ h=>dm h) rfl (.aW _)) rfl⟩ (.zl q)) (.A 1 [] rfl (GO q (.zi R (y,u))))))))
def xf{H:aI}{b s:LQ aa}{q:Nat}{r:(LQ aa)×(LQ aa)}:mz H b s=some r->bg prog 146 [.vc 0 q,.dA 12 (s.map aa.row) 1,.d (.agg (aI.row H))] ⟨[],[aa.DJ q b,cF s.length]⟩ (QE (.dp [.vc 2 r.1.length,.dA 12 (r.2.map aa.row) 1]) ⟨[],[cF ([]:LQ aa).length,cF r.2.length,aa.xG r.1]⟩):=
 have⟨_,e,_,f,_⟩:=pd;.S func146 rfl ntmps146 results146 rfl λS u F=>.A 7 [.r 0] rfl (lf (.move (i:=0) rfl rfl) (lf (.Sb (l:=b) (row:=aa.row) (tk:=2) (λz=>[(0,.vc 2 z),(1,.dA 12 (s.map aa.row) 1),(5,.ref 0 0)]) (λz=>⟨[.row 320 [.d (cI H.source),.d (cI H.number)]],[cF ([]:LQ aa).length,cF s.length,aa.DJ z b]⟩) rfl (.k3 rfl rfl rfl (.nil)) rfl) (.lq [5] (λ⟨h,n⟩=>[(0,.vc 2 h.length),(1,.dA 12 (n.map aa.row) 1)]) (λ⟨h,n⟩=>[.t 1 (cF n.length),.t 2 (aa.xG h)]) rfl rfl (λ⟨h,n⟩ q1 o=>bA λy v=>.B 5 [] rfl (.cf [] [2] (.d (.dp [cI y.1,cI y.2])) [] AZ v (.A 7 [] rfl (aN λp=>aN λw=>bA λy2 C=>bA λy3 D=>.o2 14 8 9 [[],[],[]] (.M (.vc 2 h.length) 0 1 (.M (.d (cI y.1)) 0 1 (.M (.d (cI y.2)) 0 1 (.G (x:=.vw 2 h.length y.1.toNat ((h.take y.2.toNat).drop y.1.toNat).length) 0 1 ⟨aG.g (Qp (l:=h) (row:=aa.row) (i:=y.1) (j:=y.2) underlying27 e f rfl rfl rfl rfl p),aG.g (Qp (l:=h) (row:=aa.row) (i:=y.1) (j:=y.2) underlying27 e f rfl rfl rfl rfl p),trivial⟩ (.M (.vc 2 h.length) 0 0 (.M (.d (cI y.1)) 0 0 (.M (.d (cI y.2)) 0 0 (.G (x:=.vw 2 h.length y.1.toNat ((h.take y.2.toNat).drop y.1.toNat).length) 0 0 ⟨aG.g (Qp (l:=h) (row:=aa.row) (i:=y.1) (j:=y.2) underlying27 e f rfl rfl rfl rfl w),trivial⟩ (lf (.c 0 (OpC.Nf (en 93 rfl) [] [2] (x:=.d (au 1 rI y2)) (st':=⟨[.row 320 [.d (cI H.source),.d (cI H.number)]],[cF ([]:LQ aa).length,cF n.length,aa.xG h]⟩) rfl (ur (Sk (by omega)) C) ⟨.aW _,.aW _,trivial⟩ rfl rfl rfl rfl rfl rfl) rfl rfl rfl rfl) (lf (.c 1 (OpC.Nf (en 94 rfl) [] [2] (x:=.d (.dp [au 12 aa.row y3.1,au 12 aa.row y3.2])) (st':=⟨[.row 320 [.d (cI H.source),.d (cI H.number)]],[cF ([]:LQ aa).length,cF n.length,aa.xG h]⟩) rfl (A0 (Sk (by omega)) D) ⟨.aW _,.aW _,trivial⟩ rfl rfl rfl rfl rfl rfl) rfl rfl rfl rfl) (.M (.d (.dp [au 12 aa.row y3.1,au 12 aa.row y3.2])) 2 2 (.M (.d (au 12 aa.row y3.1)) 2 2 (.M (.d (au 12 aa.row y3.2)) 2 2 (.J (x:=.d (au 12 aa.row y3.1)) 2 2 (λ_=>aG.g (F6 rfl)) (lf (.nil rfl) (bA λy4 E=>.V 19 [.k wC E,.r 1] rfl (.A 7 [] rfl (.K1 F o [] [0,1,2])) (bA λy5 I=>.B 7 [] rfl (.cf [] [2] (.vc 3 y5.length) [.t 2 (cF ([]:LQ aa).length),.T (aa.xG y5)] B8 I (aN λK=>.A 10 [.m [y4.1],.a K] rfl (lf (.Sl [0] [0,1,3] (env':=[(0,.vc 2 y5.length),(1,.dA 12 ((n++([y4.1]:LQ aa)).map aa.row) 1),(5,.ref 0 0)]) (st':=⟨[.row 320 [.d (cI H.source),.d (cI H.number)]],[cF ([]:LQ aa).length,cF (n++([y4.1]:LQ aa)).length,aa.xG y5]⟩) u rfl rfl rfl rfl rfl rfl rfl rfl (.k3 rfl rfl rfl (.nil))) (.zl o))))))))))))))))))))))))))))
def A3{L c:LQ aa}{r:(LQ aa)×(LQ aa)}:l8 L c=some r->aR prog 65 [au 12 aa.row L,au 12 aa.row c] (rE (λr=>.dp [au 12 aa.row r.1,au 12 aa.row r.2]) r):=
 have⟨_,v,R,w,_⟩:=pd;.S func65 rfl ntmps65 results65 rfl λS y F=>bA λz D=>.B 12 [] rfl (.cf [] [] (.vc 0 z.length) [.T (aa.xG z)] pL D (.A 10 [.l c] rfl (lf (.tok (i:=6) (e:=94) (sz:=12) rfl) (.lq [13,14] (λ⟨b,o,H⟩=>[(6,.dA 12 (o.map aa.row) 1),(7,.vc 0 b.length),(15,.d (cI H))]) (λ⟨b,o,H⟩=>[.t 0 (aa.xG b),.t 1 (cF o.length)]) rfl rfl (λ⟨b,o,H⟩ q1 q=>.V 5 [] rfl (aN λE=>.V 17 [.x E,.r 0] rfl (aN λG=>aN λJ=>.A 13 [.m [nth c H.toNat],.a G,.h J] rfl (.tl 0 2 q y)) (.A 6 [] rfl (.bj (ι:=Int) [6,7,9,13,14,15] (λC=>[(10,.d (cI C))]) (λ_=>[]) (λs=>iW c b o H s=some q1) (λC=>bA λy2 M=>.BP 6 [.n (.vc 2 ([nth c H.toNat]:LQ aa).length) (aa.xG ([nth c H.toNat]:LQ aa))] rfl (.e (zS (n:=1) (l0:=([nth c H.toNat]:LQ aa)) (row:=aa.row) underlying27 v w R rfl rfl rfl rfl rfl) rfl) (.cf [] [0,2] (.vc 3 y2.length) [.t 0 (cF ([]:LQ aa).length),.T (aa.xG y2)] D4 M (bA λy3 N=>bA λy4 O=>.B 7 [.k iy N] rfl (.cf [] [3,1] (.dp [.vc 4 y4.1.length,.dA 12 (y4.2.map aa.row) 1]) [.t 1 (cF y4.2.length),.t 3 (cF ([]:LQ aa).length),.T (aa.xG y4.1)] xf O (aN λP=>.A 11 [.h P] rfl (lf (.Sl [] [4,1] (env':=[(6,.dA 12 (y4.2.map aa.row) 1),(7,.vc 0 y4.1.length),(13,.d (au 12 aa.row c)),(14,.d (cI (c.length:Int))),(15,.d (cI (H+1)))]) (st':=⟨[],[aa.xG y4.1,cF y4.2.length]⟩) y rfl rfl rfl rfl rfl rfl rfl rfl (.k5 rfl rfl rfl rfl rfl (.nil))) (.zl q))))))) (λo5 U=>.lq [6,7,9,13,14,15] (λj=>[(10,.d (cI j))]) (λ_=>[]) rfl rfl (λj q2 Q=>aN λW=>aN λX=>bA λy5 Y=>.AP 18 [.p 13,.i (b.length:Int),.g (.vp 0 b.length j.toNat 0),.f 7 (.d (.agg (aa.row (nth b j.toNat)))),.K yl Y] rfl ⟨λu=>aG.g (kg (l:=b) (row:=aa.row) (cs:=(aa.row (nth b j.toNat))) v8 BW rfl rfl (X u) (zae rfl) rfl),λu=>aG.g (kT (l:=b) (row:=aa.row) (i:=j) underlying27 v w rfl rfl rfl (W u)),aG.g (xz (l:=b) (row:=aa.row) underlying27 rfl rfl),(show dB _ _=true by kernel_rfl)⟩ (.I rfl (aN λZ=>.A 8 [.h Z] rfl (.zl Q)) (.A 1 [] rfl (GO Q (.zi U j))))))))) (.A 8 [] rfl (lf (.tw (l:=b) (row:=aa.row) (i:=5) rfl rfl) (.R1 F q))))))))
def CE{H:LQ aa}{b:eD}{r:(LQ Int)×(LQ ai)}:qR H b=some r->bg prog 59 [.d (au 12 aa.row H),.d (.agg (eD.row b))] ⟨[],[]⟩ (QE (.dp [.d (au 1 rI r.1),.vc 0 r.2.length]) ⟨[],[ai.EU r.2]⟩):=
 .S func59 rfl ntmps59 results59 rfl λS j F=>.A 22 [.r 0,.l H] rfl (lf (.tok (i:=6) (e:=3) (sz:=1) rfl) (lf (.Uz (i:=7) (e:=195) (sz:=4) rfl) (lf (.Sb (l:=([]:LQ ai)) (row:=ai.row) (tk:=1) (λz=>[(3,.ref 0 0),(6,.dA 1 (([]:LQ Int).map rI) 0),(7,.vc 1 z),(11,.d (au 12 aa.row H)),(12,.d (cI (H.length:Int))),(13,.d (cI 0))]) (λz=>⟨[.row 36 [.d (cI b.BX),.d (cI b.Lg)]],[Sw (([]:LQ Int).length),ai.JP z ([]:LQ ai)]⟩) rfl (.k6 rfl rfl rfl rfl rfl rfl (.nil)) rfl) (.lq [3,11,12] (λ⟨f,w,c⟩=>[(6,.dA 1 (w.map rI) 0),(7,.vc 1 f.length),(13,.d (cI c))]) (λ⟨f,w,c⟩=>[.t 0 (Sw w.length),.t 1 (ai.EU f)]) rfl rfl (λ⟨f,w,c⟩ q1 g=>.V 5 [] rfl (aN λn=>bA λy p=>.V 25 [.x n,.r 1,.k zt p] rfl (aN λq=>aN λs=>.A 19 [.m [(⟨(nth H c.toNat).source,(nth H c.toNat).aJ,c,y⟩:ai)],.o q,.h s] rfl (.tl 1 2 g j)) (aN λu=>aN λv=>.A 13 [.m [c],.a u,.h v] rfl (.tl 1 2 g j))) (.A 8 [] rfl (.K1 F g [] [1])))))))
def CF{u:dH}{r:(LQ Range)×(LQ aa)×(LQ Head)}:qS u=some r->bg prog 60 [.d (.agg (dH.row u))] ⟨[],[]⟩ (QE (.agg [.d (au 3 Range.row r.1),.d (au 12 aa.row r.2.1),.dA 4 (r.2.2.map Head.row) 0]) ⟨[],[⟨80,4,r.2.2.length,none⟩]⟩):=
 have⟨_,h,a,_,_⟩:=in_30;.S func60 rfl ntmps60 results60 rfl λS e F=>bA λy b=>bA λy2 f=>bA λy3 c=>.BD 16 [.r 0,.r 1,.p 8,.k xX b,.k wV f] rfl (.cf [] [] (.vc 0 y3.length) [.T ⟨80,4,y3.length,some (y3.map Head.row)⟩] xY c (lf (.tw (l:=y3) (row:=Head.row) (i:=11) rfl rfl) (.AP 3 [.B (.agg [.d (au 3 Range.row y),.d (au 12 aa.row y2),.dA 4 (y3.map Head.row) 0])] rfl (aG.g (GC pl_30 h a rfl rfl)) (lf (.retN [.cell 2 30] [.agg [.d (au 3 Range.row y),.d (au 12 aa.row y2),.dA 4 (y3.map Head.row) 0]] func60 results60 ⟨⟨⟨_,_,rfl⟩,Xh one_30 sz_30 rfl rfl (zae rfl) rfl⟩,trivial⟩) (λH=>by
  cases H;exact⟨[],[0],rfl,rfl,rfl,rfl,rfl,rfl,rfl,rfl,.aggE ⟨.aW _,.aW _,.aW _,trivial⟩⟩)))))
def CG{v0:dH}{v:Batch}{q:eD}{r:dH×(LQ aa)×(LQ ai)×Int}:nA v0 v q=some r->aR prog 23 [.agg (dH.row v0),.agg (Batch.row v),.agg (eD.row q)] (rE (λr=>.dp [.agg (dH.row r.1),au 12 aa.row r.2.1,au 4 ai.row r.2.2.1,cI r.2.2.2]) r):=
 .S func23 rfl ntmps23 results23 rfl λS u F=>bA λY w=>.V 22 [.r 0,.r 1,.r 2,.r 3,.k Fu w] rfl (.Z 9 [] rfl F) (bA λy2 y=>.AD 13 [.p 7,.k Fv y] rfl (.I rfl (.Z 8 [] rfl F) (bA λy3 z=>.B 6 [] rfl (.cf [] [] (.dp [.d (au 1 rI y3.1),.vc 0 y3.2.length]) [.T (ai.EU y3.2)] CE z (.A 17 [.l y3.1] rfl (lf (.tok (i:=13) (e:=94) (sz:=12) rfl) (.bj (ι:=LQ aa) [3,4,6,11,12] (λj=>[(13,.dA 12 (j.map aa.row) 1)]) (λj=>[.t 1 (cF j.length)]) (λs=>gQ v0 v y3 s=some r) (λj=>bA λy4 C=>.B 3 [] rfl (.cf [] [] (.agg [.d (au 3 Range.row y4.1),.d (au 12 aa.row y4.2.1),.dA 4 (y4.2.2.map Head.row) 2]) [.T ⟨80,4,y4.2.2.length,none⟩] CF C (bA λy5 D=>.A 24 [.r 4,.k Ek D,.l y5.2.2] rfl (.bj (ι:=LQ ai) [4,6,16,17,18] (λG=>[(12,.vc 0 G.length)]) (λG=>[.t 0 (ai.EU G)]) (λs=>gO v y4 y5 s=some r) (λG=>bA λy6 E=>.B 3 [] rfl (.cf [] [0] (.d (.dp [])) [.t 0 (ai.JP G.length y6)] Hh E (bA λy7 J=>aN λK=>.B 43 [.k A3 J,.l v.records,.m [(⟨v.source,v.number,v.format,(v.records.length:Int)⟩:Head)],.a K] rfl (lf (.vV 4 2 rfl rfl (.dA _ _ _)) (.A 8 [] rfl (lf (.tw (l:=y6) (row:=ai.row) (i:=8) rfl rfl) (.R F))))))) (λEc b=>.lq [4,6,11,16,17,18,70,71] (λ⟨c,H⟩=>[(12,.vc 0 c.length),(72,.d (cI H))]) (λ⟨c,H⟩=>[.t 0 (ai.EU c)]) rfl rfl (λ⟨c,H⟩ q1 f=>.V 5 [] rfl (aN λL=>aN λM=>aN λN=>aN λO=>.A 32 [.x L,.r 5,.x M,.m [(⟨(nth y5.2.2 H.toNat).source,(nth y5.2.2 H.toNat).aJ,nth y3.1 ((nth y5.2.2 H.toNat).index).toNat,(nth y5.2.2 H.toNat).err⟩:ai)],.o N,.h O] rfl (.tl 5 3 f u)) (.A 1 [] rfl (GO f (.zi b c))))))))) (λo5 P=>.lq [3,4,6,11,12,45,46] (λ⟨g,n⟩=>[(13,.dA 12 (g.map aa.row) 1),(47,.d (cI n))]) (λ⟨g,n⟩=>[.t 1 (cF g.length)]) rfl rfl (λ⟨g,n⟩ q1 f=>.V 5 [] rfl (aN λQ=>aN λU=>aN λW=>aN λX=>.A 25 [.x Q,.x U,.m [nth v.records (nth y3.1 n.toNat).toNat],.a W,.h X] rfl (.zl f)) (.A 1 [] rfl (GO f (.zi P g))))))))))))
def uu{b:eA}{r:(LQ uA)}:gw b=some r->aR prog 274 [.agg (eA.row b)] (rE cS r):=
 .S func274 rfl ntmps274 results274 rfl λS h F=>.V 12 [.r 0] rfl (.Z 7 [] rfl F) (.Z 8 [] rfl F)
def oU{b:LQ Int}{x:Int}{r:(LQ Int)}:iv b x=some r->aR prog 284 [au 1 rI b,cI x] (rE (au 1 rI) r):=
 have⟨_,c,N,f,i⟩:=I1;.S func284 rfl ntmps284 results284 rfl λS B F=>.A 9 [] rfl (.bj (ι:=Int) [0,1] (λH=>[(5,.d (cI H))]) (λ_=>[]) (λs=>fL b x s=some r) (λH=>aN λo=>aN λp=>aN λq=>aN λt=>aN λu=>.AP 25 [.d (au 1 rI (b.take H.toNat)),.n (.dA 1 ((b.take H.toNat).map rI) 0) (Sw (b.take H.toNat).length),.m [x],.a q,.d (au 1 rI (b.drop H.toNat)),.a u] rfl ⟨aG.g (vP (l:=b) (row:=rI) underlying67 c f rfl rfl rfl t),.e (vQ (l':=b.take H.toNat) (row:=rI) underlying67 c N f rfl (by rw[i];decide) rfl rfl rfl p) rfl,aG.g (Gp (l:=b) (row:=rI) underlying67 c f rfl rfl rfl o)⟩ (.R F)) (λC v=>.lq [0,1] (λj=>[(5,.d (cI j))]) (λ_=>[]) rfl rfl (λj q1 k=>aN λw=>.V 16 [.l b,.y w] rfl (aN λz=>.A 8 [.h z] rfl (.zl k)) (.A 1 [] rfl (GO k (.zi v j))))))
def mn{H:LQ (LQ uA)}{x:LQ uA}{r:(LQ (LQ uA))}:fM H x=some r->aR prog 407 [au 1 rS H,cS x] (rE (au 1 rS) r):=
 have⟨_,V,i,j,k⟩:=Qv;.S func407 rfl ntmps407 results407 rfl λS C F=>.A 9 [] rfl (.bj (ι:=Int) [0,1] (λc=>[(5,.d (cI c))]) (λ_=>[]) (λs=>eP H x s=some r) (λc=>aN λp=>aN λq=>aN λt=>aN λu=>aN λv=>.AP 25 [.d (au 1 rS (H.take c.toNat)),.n (.dA 1 ((H.take c.toNat).map rS) 0) (GW (H.take c.toNat).length),.m [x],.a t,.d (au 1 rS (H.drop c.toNat)),.a v] rfl ⟨aG.g (vP (l:=H) (row:=rS) underlying216 V j rfl rfl rfl u),.e (vQ (l':=H.take c.toNat) (row:=rS) underlying216 V i j rfl (by rw[k];decide) rfl rfl rfl q) rfl,aG.g (Gp (l:=H) (row:=rS) underlying216 V j rfl rfl rfl p)⟩ (.R F)) (λD w=>.lq [0,1] (λf=>[(5,.d (cI f))]) (λ_=>[]) rfl rfl (λf q1 o=>aN λz=>.AP 16 [.l H,.y z,.b (mr (nth H f.toNat) x)] rfl (λE=>aG.g (Xi rfl rfl)) (.I rfl (aN λB=>.A 8 [.h B] rfl (.zl o)) (.A 1 [] rfl (GO o (.zi w f)))))))
def re{b:LQ (LQ uA)}{g:LQ uA}{r:(LQ (LQ uA))}:kM b g=some r->aR prog 408 [au 1 rS b,cS g] (rE (au 1 rS) r):=
 .S func408 rfl ntmps408 results408 rfl λS p F=>.A 16 [.l b] rfl (lf (.tok (i:=5) (e:=9) (sz:=1) rfl) (.lq [1,8,9] (λ⟨H,f⟩=>[(5,.dA 1 (H.map rS) 0),(10,.d (cI f))]) (λ⟨H,f⟩=>[.t 0 (GW H.length)]) rfl rfl (λ⟨H,f⟩ q1 c=>.V 5 [] rfl (aN λj=>.V 15 [.x j] rfl (aN λk=>aN λn=>.A 12 [.m [nth b f.toNat],.a k,.h n] rfl (.zl c)) (aN λo=>.A 6 [.h o] rfl (.zl c))) (.A 6 [] rfl (.R1 F c)))))
def A4{r:(LQ (Int×aj))×(LQ (Int×Sub))×(LQ (Int×Bool))×(LQ ((LQ uA)×Int))×(LQ (Int×Int))}:pK=some r->bg prog 161 [] ⟨[],[]⟩ (QE (.ref 0 0) ⟨[.row 487 [.mp 1,.mp 2,.mp 3,.mp 4,.mp 5,.d b7,.d b7],mo4 r.1,mo3 r.2.1,mo2 r.2.2.1,mo0 r.2.2.2.1,mo1 r.2.2.2.2],[]⟩):=
 have⟨_,h,H,_,_⟩:=Xp;.S func161 rfl ntmps161 results161 rfl λS a F=>.AP 15 [.Z (.mp 0) [.O (mo4 ([]:LQ (Int×aj)))],.Z (.mp 1) [.O (mo3 ([]:LQ (Int×Sub)))],.Z (.mp 2) [.O (mo2 ([]:LQ (Int×Bool)))],.Z (.mp 3) [.O (mo0 ([]:LQ ((LQ uA)×Int)))],.Z (.mp 4) [.O (mo1 ([]:LQ (Int×Int)))],.B (.agg [.mp 0,.mp 1,.mp 2,.mp 3,.mp 4,.d b7,.d b7]),.r 5] rfl ⟨aG.g (GC pl_487 h H rfl rfl),.e kf rfl,.e kf rfl,.e kf rfl,.e kf rfl,.e kf rfl⟩ (.K F [5,0,1,2,3,4] [])
def CH{a:LQ Event}{h:Int}{r:(LQ Event)×Int}:qT a h=some r->bg prog 533 [.d (au 7 Event.row a),.d (cI h)] ⟨[],[]⟩ (QE (.xl 614 [.ref 0 0,.ref 1 0]) ⟨[.row 22 [.d (au 7 Event.row r.1)],.row 3 [.d (cI r.2)]],[]⟩):=
 .S func533 rfl ntmps533 results533 rfl λS H F=>.AP 11 [.r 0,.r 1,.g (.xl 614 [.ref 0 0,.ref 1 0])] rfl (aG.g (vM rfl)) (.K F [0,1] [])
def sU{m:Sub}{v:Event}{b H:LQ Int}{f:LQ (Int×aj)}{g:LQ (Int×Sub)}{i:LQ (Int×Bool)}{c:LQ ((LQ uA)×Int)}{j:LQ (Int×Int)}{r:Sub×(LQ ((LQ uA)×Int))}:fA m v b H f g i c j=some r->bg prog 285 [.ref 0 0,.d (.agg (Sub.row m)),.d (.agg (Event.row v))] ⟨[.row 487 [.mp 1,.mp 2,.mp 3,.mp 4,.mp 5,.d (au 1 rI b),.d (au 1 rI H)],mo4 f,mo3 g,mo2 i,mo0 c,mo1 j],[]⟩ (QE (.d (.agg (Sub.row r.1))) ⟨[.row 487 [.mp 1,.mp 2,.mp 3,.mp 4,.mp 5,.d (au 1 rI b),.d (au 1 rI H)],mo4 f,mo3 g,mo2 i,mo0 r.2,mo1 j],[]⟩):=
 .S func285 rfl ntmps285 results285 rfl λS u F=>.V 18 [.r 6,.r 7,.r 8] rfl (bA λy n=>.AP 28 [.p 8,.W [.o 4 (mo0 (cQ c v.number v.sub))],.k mn n] rfl ⟨.e (eM (Nj underlying9) (l:=c) (val:=(λx=>cI x)) (k:=v.number) (a:=v.sub) underlying484 rfl rfl rfl (λ_ _ _ h=>dm h) rfl (.aW _)) rfl,(show dB _ _=true by kernel_rfl)⟩ (.K F [0,1,2,3,4,5] [])) (.V 5 [] rfl (bA λy2 q=>.AP 26 [.p 6,.Z (.d (.dp [])) [.o 4 (mo0 (eG c v.number))],.k re q] rfl ⟨.e (Dy (Nj underlying9) (l:=c) (val:=(λx=>cI x)) (k:=v.number) underlying484 rfl rfl rfl (λ_ _ _ h=>dm h)) rfl,(show dB _ _=true by kernel_rfl)⟩ (.K F [0,1,2,3,4,5] [])) (.V 5 [] rfl (.A 12 [] rfl (.K F [0,1,2,3,4,5] [])) (.V 5 [] rfl (bA λy3 s=>.A 15 [.k mn s] rfl (.K F [0,1,2,3,4,5] [])) (.V 5 [] rfl (bA λy4 t=>.A 15 [.k re t] rfl (.K F [0,1,2,3,4,5] [])) (.V 5 [] rfl (.A 10 [] rfl (.K F [0,1,2,3,4,5] [])) (.V 5 [] rfl (.A 10 [] rfl (.K F [0,1,2,3,4,5] [])) (.V 5 [] rfl (.A 10 [] rfl (.K F [0,1,2,3,4,5] [])) (.V 5 [] rfl (.A 10 [] rfl (.K F [0,1,2,3,4,5] [])) (.A 7 [] rfl (.K F [0,1,2,3,4,5] []))))))))))
def uw{H:Event}{q t:LQ Int}{j:LQ (Int×aj)}{f:LQ (Int×Sub)}{n:LQ (Int×Bool)}{y:LQ ((LQ uA)×Int)}{m:LQ (Int×Int)}{r:(LQ Int)×(LQ Int)×(LQ (Int×aj))×(LQ (Int×Sub))×(LQ (Int×Bool))×(LQ ((LQ uA)×Int))×(LQ (Int×Int))}:eQ H q t j f n y m=some r->bg prog 164 [.ref 0 0,.d (.agg (Event.row H))] ⟨[.row 487 [.mp 1,.mp 2,.mp 3,.mp 4,.mp 5,.d (au 1 rI q),.d (au 1 rI t)],mo4 j,mo3 f,mo2 n,mo0 y,mo1 m],[]⟩ (QE (.d (.dp [])) ⟨[.row 487 [.mp 1,.mp 2,.mp 3,.mp 4,.mp 5,.d (au 1 rI r.1),.d (au 1 rI r.2.1)],mo4 r.2.2.1,mo3 r.2.2.2.1,mo2 r.2.2.2.2.1,mo0 r.2.2.2.2.2.1,mo1 r.2.2.2.2.2.2],[]⟩):=
 have⟨_,U,X,_,_⟩:=I1;have⟨_,FO,P,_,_⟩:=Xl;have⟨_,z,C,_,_⟩:=DG;have⟨_,D,E,_,_⟩:=DH;.S func164 rfl ntmps164 results164 rfl λS hS F=>.V 15 [.r 6] rfl (.sj (ι:=LQ Int) [0,3] (λQ=>[]) (λQ=>[.c 0 5 (.d (au 1 rI Q)),.O (aj.o214 ((ak j H.ah).getD kq0))]) (λs=>dR H t j f n y m s=some r) (λQ=>.AP 21 [.p 16,.B (.d (.agg (aj.row (⟨H.ah,H.at_,H.value,(H.name==([112,114,101,112,97,105,100]:LQ uA)),false,([]:LQ Int)⟩:aj)))),.W [.o 1 (mo4 (cQ j H.ah (⟨H.ah,H.at_,H.value,(H.name==([112,114,101,112,97,105,100]:LQ uA)),false,([]:LQ Int)⟩:aj)))]] rfl ⟨.e (eM (eL underlying3) (l:=j) (val:=(λx=>.agg (aj.row x))) (k:=H.ah) (a:=(⟨H.ah,H.at_,H.value,(H.name==([112,114,101,112,97,105,100]:LQ uA)),false,([]:LQ Int)⟩:aj)) underlying481 rfl rfl rfl (λ_ _ _ h=>dm h) rfl (.aW _)) rfl,aG.g (aG.le (sr pl_214 z C rfl rfl) (eB.d (.agg ⟨.aW _,.aW _,.aW _,.aW _,.aW _,.nil 1,trivial⟩))),(show dB _ _=true by kernel_rfl)⟩ (.Kf F [0,1,2,3,4,5] [])) (λY=>.A 1 [] rfl (.o2 12 10 11 [[],[.O (.row 214 [.d (cI 0),.d (cI 0),.d (cI 0),.d (cB false),.d (cB false),.d b7])],[.O (aj.o214 ((ak j H.ah).getD kq0))]] (.M (.ref 0 0) 0 1 (.M (.ref 0 0) 0 1 (.J (x:=.ref 0 0) 0 1 (λ_=>aG.g (bn NJ rfl)) (.M (.mp 1) 0 1 (.J (x:=.ref 6 2) 0 1 (λ_=>aG.g (bn NG rfl)) (.M (.d (cI H.ah)) 0 1 (.G (x:=.d (.dp [.agg (aj.row ((ak j H.ah).getD kq0)),cB (ak j H.ah).isSome])) 0 1 ⟨aG.g (jB (eL underlying3) (l:=j) (val:=(λx=>.agg (aj.row x))) (k:=H.ah) (a0:=kq0) underlying481 z C (show vN (.agg [cI 0,cI 0,cI 0,cB false,cB false,b7]) (.agg (aj.row kq0))from .agg ⟨.aW _,.aW _,.aW _,.aW _,.aW _,.nil 1,trivial⟩) rfl rfl rfl (λ_ _ _ h=>dm h)),aG.g (jB (eL underlying3) (l:=j) (val:=(λx=>.agg (aj.row x))) (k:=H.ah) (a0:=kq0) underlying481 z C (show vN (.agg [cI 0,cI 0,cI 0,cB false,cB false,b7]) (.agg (aj.row kq0))from .agg ⟨.aW _,.aW _,.aW _,.aW _,.aW _,.nil 1,trivial⟩) rfl rfl rfl (λ_ _ _ h=>dm h)),trivial⟩ (.M (.d (.dp [.agg (aj.row ((ak j H.ah).getD kq0)),cB (ak j H.ah).isSome])) 0 1 (.M (.d (.agg (aj.row ((ak j H.ah).getD kq0)))) 0 1 (.M (.d (cB (ak j H.ah).isSome)) 0 2 (lf (.v (x:=.ref 7 0) 0 (nf Xy rfl) rfl rfl rfl rfl) (lf (.u 1 (tj rfl rfl rfl rfl (zae rfl) sz_214) rfl rfl rfl rfl) (lf (.nil rfl) (.V 7 [] rfl (bA λy1 dD=>.AD 14 [.p 10,.k oU dD] rfl (.zi Y y1)) (.A 1 [] rfl (.zi Y q))))))))))))))))))) (.V 5 [] rfl (.A 1 [] rfl (.o1 8 7 [[],[.O (.row 214 [.d (cI 0),.d (cI 0),.d (cI 0),.d (cB false),.d (cB false),.d b7])]] (.M (.ref 0 0) 0 1 (.M (.ref 0 0) 0 1 (.J (x:=.ref 0 0) 0 1 (λ_=>aG.g (bn NJ rfl)) (.M (.mp 1) 0 1 (.J (x:=.ref 6 2) 0 1 (λ_=>aG.g (bn NG rfl)) (.M (.d (cI H.ah)) 0 1 (.G (x:=.d (.agg (aj.row ((ak j H.ah).getD kq0)))) 0 1 ⟨aG.g (ki (eL underlying3) (l:=j) (val:=(λx=>.agg (aj.row x))) (k:=H.ah) (a0:=kq0) underlying481 z C (show vN (.agg [cI 0,cI 0,cI 0,cB false,cB false,b7]) (.agg (aj.row kq0))from .agg ⟨.aW _,.aW _,.aW _,.aW _,.aW _,.nil 1,trivial⟩) rfl rfl rfl (λ_ _ _ h=>dm h)),aG.g (ki (eL underlying3) (l:=j) (val:=(λx=>.agg (aj.row x))) (k:=H.ah) (a0:=kq0) underlying481 z C (show vN (.agg [cI 0,cI 0,cI 0,cB false,cB false,b7]) (.agg (aj.row kq0))from .agg ⟨.aW _,.aW _,.aW _,.aW _,.aW _,.nil 1,trivial⟩) rfl rfl rfl (λ_ _ _ h=>dm h)),trivial⟩ (lf (.v (x:=.ref 7 0) 0 (nf Xy rfl) rfl rfl rfl rfl) (lf (.nil rfl) (.AP 19 [.p 7,.W [.o 1 (mo4 (cQ j H.ah (⟨((ak j H.ah).getD kq0).id,((ak j H.ah).getD kq0).since,((ak j H.ah).getD kq0).anchor,((ak j H.ah).getD kq0).jN,true,((ak j H.ah).getD kq0).aV⟩:aj)))]] rfl ⟨.e (eM (eL underlying3) (l:=j) (val:=(λx=>.agg (aj.row x))) (k:=H.ah) (a:=(⟨((ak j H.ah).getD kq0).id,((ak j H.ah).getD kq0).since,((ak j H.ah).getD kq0).anchor,((ak j H.ah).getD kq0).jN,true,((ak j H.ah).getD kq0).aV⟩:aj)) underlying481 rfl rfl rfl (λ_ _ _ h=>dm h) rfl (.aW _)) rfl,(show dB _ _=true by kernel_rfl)⟩ (.Kf F [0,1,2,3,4,5] []))))))))))))) (.V 5 [] rfl (.sj (ι:=LQ Int) [0,3] (λR=>[]) (λR=>[.c 0 6 (.d (au 1 rI R))]) (λs=>dS H q j f n y m s=some r) (λR=>aN λcD=>.AP 44 [.p 6,.W [.o 3 (mo2 (cQ n H.sub true))],.p 8,.i ((ak m H.ah).getD 0),.h cD,.W [.o 5 (mo1 (cQ m H.ah (((ak m H.ah).getD 0)+1)))],.p 15,.B (.d (.agg (Sub.row (⟨H.sub,H.ah,H.at_,H.name,([]:LQ (LQ uA)),([]:LQ (LQ uA)),false,false⟩:Sub)))),.W [.o 2 (mo3 (cQ f H.sub (⟨H.sub,H.ah,H.at_,H.name,([]:LQ (LQ uA)),([]:LQ (LQ uA)),false,false⟩:Sub)))]] rfl ⟨.e (eM (eL underlying3) (l:=f) (val:=(λx=>.agg (Sub.row x))) (k:=H.sub) (a:=(⟨H.sub,H.ah,H.at_,H.name,([]:LQ (LQ uA)),([]:LQ (LQ uA)),false,false⟩:Sub)) underlying482 rfl rfl rfl (λ_ _ _ h=>dm h) rfl (.aW _)) rfl,aG.g (aG.le (sr Xx D E rfl rfl) (eB.d (.agg ⟨.aW _,.aW _,.aW _,.aW _,.nil 1,.nil 1,.aW _,.aW _,trivial⟩))),(show dB _ _=true by kernel_rfl),.e (eM (eL underlying3) (l:=m) (val:=(λx=>cI x)) (k:=H.ah) (a:=((ak m H.ah).getD 0)+1) underlying485 rfl rfl rfl (λ_ _ _ h=>dm h) rfl (.aW _)) rfl,aG.g (ki (eL underlying3) (l:=m) (val:=(λx=>cI x)) (k:=H.ah) (a0:=0) underlying485 U X (show vN (cI 0) (cI 0)from .aW _) rfl rfl rfl (λ_ _ _ h=>dm h)),(show dB _ _=true by kernel_rfl),.e (eM (eL underlying3) (l:=n) (val:=(λx=>cB x)) (k:=H.sub) (a:=true) underlying483 rfl rfl rfl (λ_ _ _ h=>dm h) rfl (.aW _)) rfl,(show dB _ _=true by kernel_rfl)⟩ (.Kf F [0,1,2,3,4,5] [])) (λEc=>.AP 12 [.p 8,.b ((ak n H.sub).getD false)] rfl ⟨aG.g (ki (eL underlying3) (l:=n) (val:=(λx=>cB x)) (k:=H.sub) (a0:=false) underlying483 FO P (show vN (cB false) (cB false)from .aW _) rfl rfl rfl (λ_ _ _ h=>dm h)),(show dB _ _=true by kernel_rfl)⟩ (.I rfl (bA λy2 fD=>.AD 14 [.p 10,.k oU fD] rfl (.zi Ec y2)) (.A 1 [] rfl (.zi Ec t))))) (.V 5 [] rfl (.A 1 [] rfl (.o1 8 7 [[],[.O (.row 218 [.d (cI 0),.d (cI 0),.d (cI 0),.d (cS ([]:LQ uA)),.d b7,.d b7,.d (cB false),.d (cB false)])]] (.M (.ref 0 0) 0 1 (.M (.ref 0 0) 0 1 (.J (x:=.ref 0 1) 0 1 (λ_=>aG.g (bn GU rfl)) (.M (.mp 2) 0 1 (.J (x:=.ref 6 3) 0 1 (λ_=>aG.g (bn GS rfl)) (.M (.d (cI H.sub)) 0 1 (.G (x:=.d (.agg (Sub.row ((ak f H.sub).getD kq1)))) 0 1 ⟨aG.g (ki (eL underlying3) (l:=f) (val:=(λx=>.agg (Sub.row x))) (k:=H.sub) (a0:=kq1) underlying482 D E (show vN (.agg [cI 0,cI 0,cI 0,cS ([]:LQ uA),b7,b7,cB false,cB false]) (.agg (Sub.row kq1))from .agg ⟨.aW _,.aW _,.aW _,.aW _,.nil 1,.nil 1,.aW _,.aW _,trivial⟩) rfl rfl rfl (λ_ _ _ h=>dm h)),aG.g (ki (eL underlying3) (l:=f) (val:=(λx=>.agg (Sub.row x))) (k:=H.sub) (a0:=kq1) underlying482 D E (show vN (.agg [cI 0,cI 0,cI 0,cS ([]:LQ uA),b7,b7,cB false,cB false]) (.agg (Sub.row kq1))from .agg ⟨.aW _,.aW _,.aW _,.aW _,.nil 1,.nil 1,.aW _,.aW _,trivial⟩) rfl rfl rfl (λ_ _ _ h=>dm h)),trivial⟩ (lf (.v (x:=.ref 7 0) 0 (nf Xz rfl) rfl rfl rfl rfl) (lf (.nil rfl) (.A 10 [.l ((ak f H.sub).getD kq1).numbers] rfl (.bj (ι:=(LQ ((LQ uA)×Int))) [0,3,7] (λT=>[]) (λT=>[.o 4 (mo0 T)]) (λs=>cr H q t j f n m s=some r) (λT=>aN λdC=>.AP 24 [.p 8,.i ((ak m ((ak f H.sub).getD kq1).ah).getD 0),.h dC,.W [.o 5 (mo1 (cQ m ((ak f H.sub).getD kq1).ah (((ak m ((ak f H.sub).getD kq1).ah).getD 0) - 1)))],.p 6,.Z (.d (.dp [])) [.o 2 (mo3 (eG f H.sub))]] rfl ⟨.e (Dy (eL underlying3) (l:=f) (val:=(λx=>.agg (Sub.row x))) (k:=H.sub) underlying482 rfl rfl rfl (λ_ _ _ h=>dm h)) rfl,(show dB _ _=true by kernel_rfl),.e (eM (eL underlying3) (l:=m) (val:=(λx=>cI x)) (k:=((ak f H.sub).getD kq1).ah) (a:=((ak m ((ak f H.sub).getD kq1).ah).getD 0) - 1) underlying485 rfl rfl rfl (λ_ _ _ h=>dm h) rfl (.aW _)) rfl,aG.g (ki (eL underlying3) (l:=m) (val:=(λx=>cI x)) (k:=((ak f H.sub).getD kq1).ah) (a0:=0) underlying485 U X (show vN (cI 0) (cI 0)from .aW _) rfl rfl rfl (λ_ _ _ h=>dm h)),(show dB _ _=true by kernel_rfl)⟩ (.Kf F [0,1,2,3,4,5] [])) (λTm K=>.lq [0,3,7,151,152] (λ⟨L,w⟩=>[(153,.d (cI L))]) (λ⟨L,w⟩=>[.o 4 (mo0 w)]) rfl rfl (λ⟨L,w⟩ q1 bJ=>.V 5 [] rfl (aN λfp=>aN λiQ=>.AP 22 [.x fp,.Z (.d (.dp [])) [.o 4 (mo0 (eG w (nth ((ak f H.sub).getD kq1).numbers L.toNat)))],.h iQ] rfl (.e (Dy (Nj underlying9) (l:=w) (val:=(λx=>cI x)) (k:=nth ((ak f H.sub).getD kq1).numbers L.toNat) underlying484 rfl rfl rfl (λ_ _ _ h=>dm h)) rfl) (.zl bJ)) (.A 1 [] rfl (GO bJ (.zi K w)))))))))))))))))) (.sj (ι:=Bool) [0,3] (λLq=>[(177,.d (cB Lq))]) (λ_=>[]) (λs=>dU H q t j f n y m s=some r) (λLq=>.I rfl (.A 2 [] rfl (.Kf F [0,1,2,3,4,5] [])) (.A 1 [] rfl (.o2 12 10 11 [[],[.O (.row 218 [.d (cI 0),.d (cI 0),.d (cI 0),.d (cS ([]:LQ uA)),.d b7,.d b7,.d (cB false),.d (cB false)])],[.O (Sub.o218 ((ak f H.sub).getD kq1))]] (.M (.ref 0 0) 0 1 (.M (.ref 0 0) 0 1 (.J (x:=.ref 0 1) 0 1 (λ_=>aG.g (bn GU rfl)) (.M (.mp 2) 0 1 (.J (x:=.ref 6 3) 0 1 (λ_=>aG.g (bn GS rfl)) (.M (.d (cI H.sub)) 0 1 (.G (x:=.d (.dp [.agg (Sub.row ((ak f H.sub).getD kq1)),cB (ak f H.sub).isSome])) 0 1 ⟨aG.g (jB (eL underlying3) (l:=f) (val:=(λx=>.agg (Sub.row x))) (k:=H.sub) (a0:=kq1) underlying482 D E (show vN (.agg [cI 0,cI 0,cI 0,cS ([]:LQ uA),b7,b7,cB false,cB false]) (.agg (Sub.row kq1))from .agg ⟨.aW _,.aW _,.aW _,.aW _,.nil 1,.nil 1,.aW _,.aW _,trivial⟩) rfl rfl rfl (λ_ _ _ h=>dm h)),aG.g (jB (eL underlying3) (l:=f) (val:=(λx=>.agg (Sub.row x))) (k:=H.sub) (a0:=kq1) underlying482 D E (show vN (.agg [cI 0,cI 0,cI 0,cS ([]:LQ uA),b7,b7,cB false,cB false]) (.agg (Sub.row kq1))from .agg ⟨.aW _,.aW _,.aW _,.aW _,.nil 1,.nil 1,.aW _,.aW _,trivial⟩) rfl rfl rfl (λ_ _ _ h=>dm h)),trivial⟩ (.M (.d (.dp [.agg (Sub.row ((ak f H.sub).getD kq1)),cB (ak f H.sub).isSome])) 0 1 (.M (.d (.agg (Sub.row ((ak f H.sub).getD kq1)))) 0 1 (.M (.d (cB (ak f H.sub).isSome)) 0 2 (lf (.v (x:=.ref 7 0) 0 (nf Xz rfl) rfl rfl rfl rfl) (lf (.u 1 (tj rfl rfl rfl rfl (zae rfl) Ld) rfl rfl rfl rfl) (lf (.nil rfl) (.V 6 [] rfl (bA λy3 ku=>.o1 10 9 [[],[.o 4 (mo0 y3.2)]] (.M (.ref 0 0) 0 1 (.M (.ref 0 0) 0 1 (.J (x:=.ref 0 1) 0 1 (λ_=>aG.g (bn GU rfl)) (.M (.mp 2) 0 1 (.J (x:=.ref 6 3) 0 1 (λ_=>aG.g (bn GS rfl)) (.M (.d (cI H.sub)) 0 1 (.M (.ref 0 0) 0 0 (.G (x:=.d (.agg (Sub.row ((ak f H.sub).getD kq1)))) 0 0 ⟨aG.g (eJ Sr Ld rfl rfl (zae rfl) rfl),trivial⟩ (.G (x:=.d (.agg (Event.row H))) 0 0 ⟨aG.g (eJ one_111 sz_111 rfl rfl (zae rfl) rfl),trivial⟩ (lf (.c 0 (OpC.Nf (en 110 rfl) [0,1,2,3,4,5] [] (x:=.d (.agg (Sub.row y3.1))) (st':=⟨[.row 487 [.mp 1,.mp 2,.mp 3,.mp 4,.mp 5,.d (au 1 rI q),.d (au 1 rI t)],mo4 j,mo3 f,mo2 n,mo0 y3.2,mo1 m,Event.o111 H,Sub.o218 ((ak f H.sub).getD kq1)],[]⟩) rfl (sU ku) ⟨.aW _,.aW _,.aW _,trivial⟩ rfl (bV rfl (bV ij (bV ij (bV ij (bV ij (bV ij rfl)))))) (by first|rfl|(simp only[zbb,zel,Qe,Qf,kD];rfl)) rfl rfl (by first|rfl|(simp only[zbb,zel,Qe,Qf,kD];rfl))) rfl rfl rfl rfl) (lf (.nil rfl) (.AP 3 [.W [.o 2 (mo3 (cQ f H.sub y3.1))]] rfl (.e (eM (eL underlying3) (l:=f) (val:=(λx=>.agg (Sub.row x))) (k:=H.sub) (a:=y3.1) underlying482 rfl rfl rfl (λ_ _ _ h=>dm h) rfl (.aW _)) rfl) (.Kf F [0,1,2,3,4,5] [])))))))))))))) (.A 2 [] rfl (.Kf F [0,1,2,3,4,5] []))))))))))))))))))) (λN=>.V 5 [] rfl (.A 1 [] rfl (.zi N (H.kind==14))) (.A 4 [] rfl (.zi N (H.kind==15))))))))
def zx{p:LQ Event}{u:Int}{z k:LQ Int}{m:LQ (Int×aj)}{n:LQ (Int×Sub)}{q:LQ (Int×Bool)}{t:LQ ((LQ uA)×Int)}{C:LQ (Int×Int)}{r:(LQ Int)×(LQ Int)×(LQ (Int×aj))×(LQ (Int×Sub))×(LQ (Int×Bool))×(LQ ((LQ uA)×Int))×(LQ (Int×Int))}(H:iw p u z k m n q t C=some r){rec:Loop}(P:rec.params=#[11]){S:Go.Abs.Start}{l:Nat}(E:S.st=⟨[.row 613 [.d b7,.d b7],.row 487 [.mp 2,.mp 3,.mp 4,.mp 5,.mp 6,.d (au 1 rI z),.d (au 1 rI k)],mo4 m,mo3 n,mo2 q,mo0 t,mo1 C,.row 335 [.ref 1 0],.row 22 [.d (au 7 Event.row p)],.row 3 [.d (cI u)],.raw (.deferred (some [])),.raw (.loop rec)],[]⟩)(hi:Inv S.g S.base S.w S.st)(hl:S.g.ob 11=l){vs:uD uB}(ha:th S.g S.w S.st [.d (.ex (.func (.yield l) #[] #[])),.ref 8 0,.ref 9 0] vs)(Q:∀(a:Go.Abs.Start) (z:LQ Int) (k:LQ Int) (m:LQ (Int×aj)) (n:LQ (Int×Sub)) (q:LQ (Int×Bool)) (t:LQ ((LQ uA)×Int)) (C:LQ (Int×Int)) (y:(LQ Int)×(LQ Int)×(LQ (Int×aj))×(LQ (Int×Sub))×(LQ (Int×Bool))×(LQ ((LQ uA)×Int))×(LQ (Int×Int))) (e:Event),gR e z k m n q t C=some y->tR S.g S.w S.st a.g a.w a.st->a.base=S.base->a.st=⟨[.row 613 [.d b7,.d b7],.row 487 [.mp 2,.mp 3,.mp 4,.mp 5,.mp 6,.d (au 1 rI z),.d (au 1 rI k)],mo4 m,mo3 n,mo2 q,mo0 t,mo1 C,.row 335 [.ref 1 0],.row 22 [.d (au 7 Event.row p)],.row 3 [.d (cI u)],.raw (.deferred (some [])),.raw (.loop rec),Event.o111 e],[]⟩->Inv a.g a.base a.w a.st->∀v,cq a.g.lim a.w (.agg (Event.row e)) v->bT prog ⟨rec.fn,[],some l,false⟩ (mh a λ_ s=>∃O,s.aB[11]?=some (.raw (.loop O))/\⟨[.row 613 [.d b7,.d b7],.row 487 [.mp 2,.mp 3,.mp 4,.mp 5,.mp 6,.d (au 1 rI y.1),.d (au 1 rI y.2.1)],mo4 y.2.2.1,mo3 y.2.2.2.1,mo2 y.2.2.2.2.1,mo0 y.2.2.2.2.2.1,mo1 y.2.2.2.2.2.2,.row 335 [.ref 1 0],.row 22 [.d (au 7 Event.row p)],.row 3 [.d (cI u)],.raw (.deferred (some [])),.raw (.loop rec),Event.o111 e],[]⟩=s.set 11 (.raw (.loop { O with state:=.ready,pending:=none }))) [.code rec.assign,.beginRound,.code rec.body] (rec.tmps.setIfInBounds 11 v) a.w):
  Calls prog 614 vs S.w (mh S λ_ s=>s=⟨[.row 613 [.d (b7),.d (b7)],.row 487 [.mp 2,.mp 3,.mp 4,.mp 5,.mp 6,.d (au 1 rI r.1),.d (au 1 rI r.2.1)],mo4 r.2.2.1,mo3 r.2.2.2.1,mo2 r.2.2.2.2.1,mo0 r.2.2.2.2.2.1,mo1 r.2.2.2.2.2.2,.row 335 [.ref 1 0],.row 22 [.d (au 7 Event.row p)],.row 3 [.d (cI u)],.raw (.deferred (some [])),.raw (.loop rec)],[]⟩):=by
 refine Calls.enterS func614 rfl ntmps614 rfl hi ha ?_;rw[E];unfold iw at H;exact wh H (.A 7 [.l p] rfl (.lq [0,2,6,7] (λ⟨f,F,G,I,J,K,L,M⟩=>[(8,.d (cI f))]) (λ⟨f,F,G,I,J,K,L,M⟩=>[.c 1 5 (.d (au 1 rI F)),.c 1 6 (.d (au 1 rI G)),.o 2 (mo4 I),.o 3 (mo3 J),.o 4 (mo2 K),.o 5 (mo0 L),.o 6 (mo1 M)]) rfl rfl (λ⟨f,F,G,I,J,K,L,M⟩ q1 N=>.V 5 [] rfl (aN λR=>.A 11 [.x R,.r 12] rfl (λH=>by
  refine .split (decide (((nth p f.toNat).at_)<=u)) (λD=>?_) (λD=>?_)
  .replace H:=ifT D H;exact wh H (bA λi T=>.B 8 [] rfl (lf (.yieldG (b:=decide (((nth p f.toNat).at_)<=u)) (st':=⟨[.row 613 [.d b7,.d b7],.row 487 [.mp 2,.mp 3,.mp 4,.mp 5,.mp 6,.d (au 1 rI i.1),.d (au 1 rI i.2.1)],mo4 i.2.2.1,mo3 i.2.2.2.1,mo2 i.2.2.2.2.1,mo0 i.2.2.2.2.2.1,mo1 i.2.2.2.2.2.2,.row 335 [.ref 1 0],.row 22 [.d (au 7 Event.row p)],.row 3 [.d (cI u)],.raw (.deferred (some [])),.raw (.loop rec),Event.o111 (nth p f.toNat)],[]⟩) rfl rfl rfl D rfl rfl rfl rfl (by rw[E];exact zae rfl) hl P (λa U W X Y v hv=>Q a _ _ _ _ _ _ _ _ _ T U W X Y v hv)) (.A 3 [] rfl (λH=>by
    refine .cond rfl (λj=>absurd j (by simp)) (λj=>?_);clear j;exact wh H (aN λZ=>.A 6 [.h Z] rfl (.tl 12 0 N E))))))
  .replace H:=ifF D H;exact wh H (.B 8 [] rfl (lf (.jI (b:=decide (((nth p f.toNat).at_)<=u)) (x:=.d (cB true)) (env':=[(17,_),(18,_)]) rfl rfl rfl ⟨.inr (.inl rfl),⟨.inr (.inl rfl),trivial⟩⟩ rfl (λhg=>absurd hg (by rw[D];decide))) (.A 3 [] rfl (λH=>by
    refine .cond rfl (λj=>absurd j (by simp)) (λj=>?_);clear j;exact wh H (aN λfp=>.A 6 [.h fp] rfl (.tl 12 0 N E)))))))) (.A 1 [] rfl (lf (.fin0 func614 results614) (λH=>by
  cases H;cases N;rfl))))))
def qX{j b:LQ Int}{q:LQ (Int×aj)}{i:LQ (Int×Sub)}{z:LQ (Int×Bool)}{A:LQ ((LQ uA)×Int)}{B:LQ (Int×Int)}{r:eU}:eR j b q i z A B=some r->bg prog 534 [.ref 0 0] ⟨[.row 487 [.mp 1,.mp 2,.mp 3,.mp 4,.mp 5,.d (au 1 rI j),.d (au 1 rI b)],mo4 q,mo3 i,mo2 z,mo0 A,mo1 B],[]⟩ (QE (.d (.agg (eU.row r))) ⟨[.row 487 [.mp 1,.mp 2,.mp 3,.mp 4,.mp 5,.d (au 1 rI j),.d (au 1 rI b)],mo4 q,mo3 i,mo2 z,mo0 A,mo1 B],[]⟩):=
 have⟨_,Q,R,U,P⟩:=I1;have⟨_,D,E,_,_⟩:=in_67;have⟨_,X,Y,_,_⟩:=DG;have⟨_,V,W,Z,Tn⟩:=DH;.S func534 rfl ntmps534 results534 rfl λS N F=>.Wc 23 [.r 6,.r 7,.v (.mp 8) ⟨[.row 487 [.mp 1,.mp 2,.mp 3,.mp 4,.mp 5,.d (au 1 rI j),.d (au 1 rI b)],mo4 q,mo3 i,mo2 z,mo0 A,mo1 B,.row 613 [.d b7,.d b7],.row 613 [.d b7,.d b7],.map (iP (λn=>Value.int .i64 n) (λx=>au 1 rI x) ([]:LQ (Int×(LQ Int))))],[]⟩,.l b] rfl (.e kf rfl) (lf (.BG (o:=7) (ci:=1) (e:=218) (sz:=8) rfl rfl) (λH=>by
  refine .Gr (ι:=LQ Sub×(LQ (Int×(LQ Int)))) (λ⟨K,C⟩=>[(0,.ref 0 0),(2,.ref 6 0),(3,.ref 7 0),(4,.mp 8)]) (λ⟨K,C⟩=>⟨[.row 487 [.mp 1,.mp 2,.mp 3,.mp 4,.mp 5,.d (au 1 rI j),.d (au 1 rI b)],mo4 q,mo3 i,mo2 z,mo0 A,mo1 B,.row 613 [.d b7,.d b7],.row 613 [.d b7,.dA 8 (K.map Sub.row) 0],.map (fZ (λn=>Value.int .i64 n) (nI 1 rI 1 C))],pY K.length::jM 3 1 C⟩) (λs=>bR j q s.1 s.2=some r) ?_ ?_
  .rintro⟨K,C⟩ H;replace H:bR j q K C=some r:=H;unfold bR at H;exact wh H (.Wc 11 [.l j] rfl trivial (lf (.gfreeze (env':=[(0,.ref 0 0),(2,.ref 6 0),(3,.ref 7 0),(4,.mp 8),(53,.d (au 1 rI j)),(54,.d (cI (j.length:Int))),(55,.d (cI 0))]) (st':=⟨[.row 487 [.mp 1,.mp 2,.mp 3,.mp 4,.mp 5,.d (au 1 rI j),.d (au 1 rI b)],mo4 q,mo3 i,mo2 z,mo0 A,mo1 B,.row 613 [.d b7,.d b7],.row 613 [.d b7,.dA 8 (K.map Sub.row) 0],.map (iP (λn=>Value.int .i64 n) (λx=>au 1 rI x) C)],[pY K.length]⟩) (e:=3) (sz:=1) (t0:=1) (row:=rI) (T:=[pY K.length]) (l:=C) (ke:=(λn=>Value.int .i64 n)) 8 rfl rfl rfl rfl rfl (Dx rfl (bV rfl (bV ij (bV ij (bV ij (bV ij (bV ij (bV rfl (bV rfl (bV ij rfl)))))))))) (by rw[N];exact zae rfl) (by rw[N];exact zae rfl)) (lf (.BG (o:=7) (ci:=0) (e:=214) (sz:=6) rfl rfl) (.lq [0,2,3,4,53,54] (λ⟨y,O⟩=>[(55,.d (cI y))]) (λ⟨y,O⟩=>[.c 7 0 (.dA 6 (O.map aj.row) 1),.t 1 ⟨214,6,O.length,none⟩]) rfl rfl (λ⟨y,O⟩ q1 L=>.Wc 5 [] rfl trivial (.I rfl (aN λcD=>aN λdC=>aN λfp=>.Wc 42 [.x cD,.d (.agg (aj.row ((ak q (nth j y.toNat)).getD kq0))),.r 9,.d (au 1 rI ((ak C (nth j y.toNat)).getD ([]:LQ Int))),.m [(⟨((ak q (nth j y.toNat)).getD kq0).id,((ak q (nth j y.toNat)).getD kq0).since,((ak q (nth j y.toNat)).getD kq0).anchor,((ak q (nth j y.toNat)).getD kq0).jN,((ak q (nth j y.toNat)).getD kq0).closed,(ak C (nth j y.toNat)).getD ([]:LQ Int)⟩:aj)],.a dC,.h fp] rfl ⟨aG.g (ki (eL underlying3) (l:=C) (val:=(λx=>au 1 rI x)) (k:=nth j y.toNat) (a0:=([]:LQ Int)) underlying784 D E (show vN b7 (au 1 rI ([]:LQ Int))from .nil 1) rfl rfl rfl (λ_ _ _ h=>dm h)),aG.g (ki (eL underlying3) (l:=q) (val:=(λx=>.agg (aj.row x))) (k:=nth j y.toNat) (a0:=kq0) underlying481 X Y (show vN (.agg [cI 0,cI 0,cI 0,cB false,cB false,b7]) (.agg (aj.row kq0))from .agg ⟨.aW _,.aW _,.aW _,.aW _,.aW _,.nil 1,trivial⟩) rfl rfl rfl (λ_ _ _ h=>dm h))⟩ (.tl 9 2 L N)) (.BHP 3 [] rfl trivial (lf (.vV 7 0 rfl rfl (.dA _ _ _)) (lf (.vV 7 1 rfl rfl (.dA _ _ _)) (.Wc 3 [] rfl trivial (.K1 F L [0,1,2,3,4,5] [])))))))))))
  .intro o5 iK;exact wh H (.lp (λ⟨f,w,p⟩=>[(0,.ref 0 0),(2,.ref 6 0),(3,.ref 7 0),(4,.mp 8),(16,.d (au 1 rI b)),(17,.d (cI (b.length:Int))),(18,.d (cI f))]) (λ⟨f,w,p⟩=>⟨[.row 487 [.mp 1,.mp 2,.mp 3,.mp 4,.mp 5,.d (au 1 rI j),.d (au 1 rI b)],mo4 q,mo3 i,mo2 z,mo0 A,mo1 B,.row 613 [.d b7,.d b7],.row 613 [.d b7,.dA 8 (w.map Sub.row) 0],.map (fZ (λn=>Value.int .i64 n) (nI 1 rI 1 p))],pY w.length::jM 3 1 p⟩) (.k7 rfl rfl rfl rfl rfl rfl rfl (.nil)) rfl (λ⟨f,w,p⟩ q1 L=>.Wc 5 [] rfl trivial (.I rfl (aN λiQ=>.Wc 30 [.x iQ,.d (.dp [.agg (Sub.row ((ak i (nth b f.toNat)).getD kq1)),cB (ak i (nth b f.toNat)).isSome]),.r 9] rfl (aG.g (jB (eL underlying3) (l:=i) (val:=(λx=>.agg (Sub.row x))) (k:=nth b f.toNat) (a0:=kq1) underlying482 V W (show vN (.agg [cI 0,cI 0,cI 0,cS ([]:LQ uA),b7,b7,cB false,cB false]) (.agg (Sub.row kq1))from .agg ⟨.aW _,.aW _,.aW _,.aW _,.nil 1,.nil 1,.aW _,.aW _,trivial⟩) rfl rfl rfl (λ_ _ _ h=>dm h))) (.I rfl (aN λmC=>.Wc 5 [.h mC] rfl trivial (λH=>by
    cases H;exact .tG 9 L rfl rfl rfl rfl (Dx rfl (bV rfl (bV ij (bV ij (bV ij (bV ij (bV ij (bV rfl (bV rfl (bV (okG (T:=[pY w.length]) rfl) rfl)))))))))) N rfl rfl)) (.Wc 2 [] rfl trivial (aN λs9=>lf (.Se 10 9 [⟨[.row 487 [.mp 1,.mp 2,.mp 3,.mp 4,.mp 5,.d (au 1 rI j),.d (au 1 rI b)],mo4 q,mo3 i,mo2 z,mo0 A,mo1 B,.row 613 [.d b7,.d b7],.row 613 [.d b7,.dA 8 (w.map Sub.row) 0],.map (fZ (λn=>Value.int .i64 n) (nI 1 rI 1 p)),Sub.o218 ((ak i (nth b f.toNat)).getD kq1)],pY w.length::jM 3 1 p⟩,⟨[.row 487 [.mp 1,.mp 2,.mp 3,.mp 4,.mp 5,.d (au 1 rI j),.d (au 1 rI b)],mo4 q,mo3 i,mo2 z,mo0 A,mo1 B,.row 613 [.d b7,.d b7],.row 613 [.d b7,.dA 8 (w.map Sub.row) 0],.map (fZ (λn=>Value.int .i64 n) (nI 1 rI 1 p)),Sub.o218 ((ak i (nth b f.toNat)).getD kq1)],pY w.length::jM 3 1 (cQ p ((ak i (nth b f.toNat)).getD kq1).ah (((ak p ((ak i (nth b f.toNat)).getD kq1).ah).getD ([]:LQ Int))++([nth b f.toNat]:LQ Int)))⟩] s7 (by kernel_rfl) (by decide) rfl) (.M (.mp 8) 0 1 (.J (x:=.ref 9 1) 0 1 (λ_=>aG.g (bn NH rfl)) (.M (.d (cI ((ak i (nth b f.toNat)).getD kq1).ah)) 0 1 (.M (.mp 8) 0 0 (.J (x:=.ref 9 1) 0 0 (λ_=>aG.g (bn NH rfl)) (.M (.d (cI ((ak i (nth b f.toNat)).getD kq1).ah)) 0 0 (.G (x:=(gev 1 rI 1 p ((ak i (nth b f.toNat)).getD kq1).ah)) 0 0 ⟨aG.g (UO (eL underlying3) (l:=p) (k:=((ak i (nth b f.toNat)).getD kq1).ah) (row:=rI) (sz:=1) (t0:=1) underlying784 D E rfl rfl rfl rfl (λ_ _ _ h=>dm h)),trivial⟩ (.M (.d (cI (nth b f.toNat))) 0 0 (.J (x:=.d (au 1 rI ([nth b f.toNat]:LQ Int))) 0 0 (λ_=>(pV underlying67 Q U R rfl rfl rfl rfl rfl)) (lf (.v (x:=.dA 1 ((((ak p ((ak i (nth b f.toNat)).getD kq1).ah).getD ([]:LQ Int))++([nth b f.toNat]:LQ Int)).map rI) (1+(dL p ((ak i (nth b f.toNat)).getD kq1).ah).getD (p).length)) 0 (UP (l:=p) (k:=((ak i (nth b f.toNat)).getD kq1).ah) (l':=([nth b f.toNat]:LQ Int)) (T:=[pY w.length]) (row:=rI) (t0:=1) underlying67 Q R U rfl (by rw[P];decide) rfl rfl rfl rfl rfl s9) rfl rfl rfl rfl) (lf (.nil rfl) (lf (.u (K6 (eL underlying3) (l:=p) (k:=((ak i (nth b f.toNat)).getD kq1).ah) (v:=((ak p ((ak i (nth b f.toNat)).getD kq1).ah).getD ([]:LQ Int))++([nth b f.toNat]:LQ Int)) (row:=rI) (sz:=1) (t0:=1) underlying784 rfl rfl rfl (λ_ _ _ h=>dm h) rfl) rfl) (aN λxe=>aN λFp=>.Wc 15 [.m [(ak i (nth b f.toNat)).getD kq1],.v (.dA 8 ((w++([(ak i (nth b f.toNat)).getD kq1]:LQ Sub)).map Sub.row) 0) ⟨[.row 487 [.mp 1,.mp 2,.mp 3,.mp 4,.mp 5,.d (au 1 rI j),.d (au 1 rI b)],mo4 q,mo3 i,mo2 z,mo0 A,mo1 B,.row 613 [.d b7,.d b7],.row 613 [.d b7,.dA 8 (w.map Sub.row) 0],.map (fZ (λn=>Value.int .i64 n) (nI 1 rI 1 (cQ p ((ak i (nth b f.toNat)).getD kq1).ah (((ak p ((ak i (nth b f.toNat)).getD kq1).ah).getD ([]:LQ Int))++([nth b f.toNat]:LQ Int))))),Sub.o218 ((ak i (nth b f.toNat)).getD kq1)],pY (w++([(ak i (nth b f.toNat)).getD kq1]:LQ Sub)).length::jM 3 1 (cQ p ((ak i (nth b f.toNat)).getD kq1).ah (((ak p ((ak i (nth b f.toNat)).getD kq1).ah).getD ([]:LQ Int))++([nth b f.toNat]:LQ Int)))⟩,.h Fp] rfl (.e (Ds (l:=w) (l':=([(ak i (nth b f.toNat)).getD kq1]:LQ Sub)) (row:=Sub.row) underlying106 V W Z rfl (by rw[Tn];decide) rfl rfl rfl rfl xe) rfl) (λH=>by
    cases H;exact .tG 9 L rfl rfl rfl rfl (Dx rfl (bV rfl (bV ij (bV ij (bV ij (bV ij (bV ij (bV rfl (bV rfl (bV (okG (T:=[pY w.length]) rfl) rfl)))))))))) N rfl rfl)))))))))))))))))) (.Wc 1 [] rfl trivial (GO L (.zi iK (w,p)))))))))
def sV{u:LQ Event}{z:Int}{r:eU}:dO u z=some r->aR prog 405 [au 7 Event.row u,cI z] (rE (λr=>.agg (eU.row r)) r):=
 .S func405 rfl ntmps405 results405 rfl λS f F=>bA λh p=>.B 6 [.r 0] rfl (.cf [] [] (.ref 1 0) [.O (.row 487 [.mp 2,.mp 3,.mp 4,.mp 5,.mp 6,.d (b7),.d (b7)]),.O (mo4 h.1),.O (mo3 h.2.1),.O (mo2 h.2.2.1),.O (mo0 h.2.2.2.1),.O (mo1 h.2.2.2.2)] A4 p (bA λy2 E=>.B 8 [.r 7] rfl (.cf [] [] (.xl 614 [.ref 8 0,.ref 9 0]) [.O (.row 22 [.d (au 7 Event.row y2.1)]),.O (.row 3 [.d (cI y2.2)])] CH E (.A 2 [] rfl (lf (.vV 1 5 rfl rfl (.nil 1)) (lf (.vV 1 6 rfl rfl (.nil 1)) (bA λy3 G=>λH=>by
  refine .rangeFunc (st':=⟨[.row 613 [.d b7,.d b7],.row 487 [.mp 2,.mp 3,.mp 4,.mp 5,.mp 6,.d (au 1 rI y3.1),.d (au 1 rI y3.2.1)],mo4 y3.2.2.1,mo3 y3.2.2.2.1,mo2 y3.2.2.2.2.1,mo0 y3.2.2.2.2.2.1,mo1 y3.2.2.2.2.2.2,.row 335 [.ref 1 0],.row 22 [.d (au 7 Event.row y2.1)],.row 3 [.d (cI y2.2)]],[]⟩) rfl (en 113 rfl) rfl ?_ ?_
  .intro S1 tm D l I J i q C j vs s;refine zx G rfl j J C s ?_;intro b M N P Q R T U y e H a V f W v hv;have k:cT b.g b.w b.st [(11,.d (.agg (Event.row e))),(5,.ref 7 0)] (tm.setIfInBounds 11 v):=cT.put (env:=[(5,.ref 7 0)]) ((q.sub (.cons rfl (.aW _) (.nil))).mono a) (by rw[i];decide) (.d _ _ hv);have hl:b.g.ob 11=l:=(a.ob 11 (by rw[j];exact zae rfl)).trans C;have n:=rk.refl b;rw[f]at k W n;unfold gR at H;refine(?_:aE prog ⟨405,[],some l,false⟩ 17 b _ [.code _,.beginRound,.code _] [(11,.d (.agg (Event.row e))),(5,.ref 7 0)] _) b.g b.w _ W n k (by simp[i]);exact wh H (.A 4 [.r 13] rfl (lf (.beginRound hl (by rw[f];exact zae rfl) rfl rfl) (bA λh p=>.B 4 [] rfl (.cf [1,2,3,4,5,6] [] (.d (.dp [])) [.c 1 5 (.d (au 1 rI h.1)),.c 1 6 (.d (au 1 rI h.2.1)),.o 2 (mo4 h.2.2.1),.o 3 (mo3 h.2.2.2.1),.o 4 (mo2 h.2.2.2.2.1),.o 5 (mo0 h.2.2.2.2.2.1),.o 6 (mo1 h.2.2.2.2.2.2)] uw p (.A 2 [] rfl (λH=>by
    cases H;exact .t 13 0 (env':=[]) (st':=⟨[.row 613 [.d b7,.d b7],.row 487 [.mp 2,.mp 3,.mp 4,.mp 5,.mp 6,.d (au 1 rI h.1),.d (au 1 rI h.2.1)],mo4 h.2.2.1,mo3 h.2.2.2.1,mo2 h.2.2.2.2.1,mo0 h.2.2.2.2.2.1,mo1 h.2.2.2.2.2.2,.row 335 [.ref 1 0],.row 22 [.d (au 7 Event.row y2.1)],.row 3 [.d (cI y2.2)],.raw (.deferred (some [])),.raw (.loop { state:=.busy,pending:=none,fn:=405,tmps:=tm,params:=#[11],assign:=_,body:=_,defers:=D }),Event.o111 e],[]⟩) (.Bm ⟨_,rfl,rfl⟩) rfl rfl rfl rfl (Dx rfl (bV rfl (bV rfl (bV ij (bV ij (bV ij (bV ij (bV ij (bV rfl (bV rfl (bV rfl (bV rfl (bV rfl (bV rfl rfl)))))))))))))) f rfl))))))
  .intro S1 D x I K f;exact wh H (bA λy4 L=>.B 4 [] rfl (.cf [1,2,3,4,5,6] [] (.d (.agg (eU.row y4))) [] qX L (.A 2 [] rfl (lf (.retM (o:=10) [.cell 4 613] [.d (.agg (eU.row y4))] func405 results405 K (by rw[f];exact zae rfl) rfl (vZ cE rfl)) (λH=>by
    cases H;exact .m rfl (.aW _)))))))))))))
def yn{i:LQ Event}{j:Int}{r:(LQ ((LQ uA)×Int))}:jZ i j=some r->bg prog 404 [.d (au 7 Event.row i),.d (cI j)] ⟨[],[]⟩ (QE (.mp 0) ⟨[mo0 r],[]⟩):=
 .S func404 rfl ntmps404 results404 rfl λS n F=>bA λy p=>.AP 20 [.Z (.mp 0) [.O (mo0 ([]:LQ ((LQ uA)×Int)))],.k sV p,.d (au 8 Sub.row y.aV),.l y.aV] rfl ⟨aG.g (RS underlying613 rfl yM rfl rfl rfl),.e (kf) rfl⟩ (.lq [5,14,15] (λ⟨b,f⟩=>[(16,.d (cI b))]) (λ⟨b,f⟩=>[.o 0 (mo0 f)]) rfl rfl (λ⟨b,f⟩ q1 m=>.V 5 [] rfl (aN λq=>.A 18 [.x q,.r 1,.l ((nth y.aV b.toNat).numbers)] rfl (.lq [5,7,14,15,16,21,22] (λ⟨w,c⟩=>[(23,.d (cI w))]) (λ⟨w,c⟩=>[.o 0 (mo0 c)]) rfl rfl (λ⟨w,c⟩ q2 Q=>.V 5 [] rfl (aN λs=>aN λu=>.AP 21 [.x s,.W [.o 0 (mo0 (cQ c (nth ((nth y.aV b.toNat).numbers) w.toNat) ((nth y.aV b.toNat).id)))],.h u] rfl (.e (eM (Nj underlying9) (l:=c) (val:=(λx=>cI x)) (k:=nth ((nth y.aV b.toNat).numbers) w.toNat) (a:=(nth y.aV b.toNat).id) underlying484 rfl rfl rfl (λ_ _ _ h=>dm h) rfl (.aW _)) rfl) (.zl Q)) (aN λv=>.A 6 [.h v] rfl (λH=>by
  cases H;cases Q;exact .t 1 0 m rfl rfl rfl rfl (Dx rfl (bV ij rfl)) n rfl))))) (.A 6 [] rfl (.K1 F m [0] []))))
def zy{a:LQ Event}{H:LQ uA}{v:Int}{r:Int×Bool}:oR a H v=some r->aR prog 273 [au 7 Event.row a,cS H,cI v] (rE (λr=>.dp [cI r.1,cB r.2]) r):=
 have⟨_,A,N,_,_⟩:=I1;.S func273 rfl ntmps273 results273 rfl λS c F=>bA λy b=>.B 9 [] rfl (.cf [] [] (.mp 0) [.O (mo0 y)] yn b (.AP 15 [.d (.dp [cI ((ak y H).getD 0),cB (ak y H).isSome])] rfl (aG.g (jB (Nj underlying9) (l:=y) (val:=(λx=>cI x)) (k:=H) (a0:=0) underlying484 A N (show vN (cI 0) (cI 0)from .aW _) rfl rfl rfl (λ_ _ _ h=>dm h))) (.R F)))
def El{a:LQ Event}{H v:Int}{r:Sub×Bool}:oS a H v=some r->aR prog 275 [au 7 Event.row a,cI H,cI v] (rE (λr=>.dp [.agg (Sub.row r.1),cB r.2]) r):=
 .S func275 rfl ntmps275 results275 rfl λS c F=>bA λy f=>.AP 16 [.r 0,.k sV f,.d (au 8 Sub.row y.aV),.l y.aV] rfl (aG.g (RS underlying613 rfl yM rfl rfl rfl)) (.lq [1,6,13,14] (λe=>[(15,.d (cI e))]) (λ_=>[]) rfl rfl (λe q1 b=>.V 5 [] rfl (aN λi=>.V 17 [.x i,.r 1] rfl (.A 6 [] rfl (.R1 F b)) (aN λj=>.A 6 [.h j] rfl (.tl 1 0 b c))) (.A 7 [] rfl (.R1 F b))))
def xg{v:kV}{r:Sub×Bool}:iY v=some r->aR prog 149 [.agg (kV.row v)] (rE (λr=>.dp [.agg (Sub.row r.1),cB r.2]) r):=
 .S func149 rfl ntmps149 results149 rfl λS H F=>bA λy d=>bA λy2 f=>.AD 31 [.r 0,.r 1,.p 15,.k uu d,.k zy f] rfl (.I rfl (.Z 6 [] rfl F) (bA λy3 h=>.Z 16 [.k El h] rfl F))
def vg{h:eA}{H:Int}{G:Sub}{r:bC}:kq h H G=some r->aR prog 150 [.agg (eA.row h),cI H,.agg (Sub.row G)] (rE (λr=>.agg (bC.row r)) r):=
 have⟨_,c,V,_,_⟩:=GP;.S func150 rfl ntmps150 results150 rfl λS e F=>.AP 43 [.r 0,.r 1,.r 2,.B (.d (.agg (bC.row (⟨H,h.record.kind,G.ah,G.id,h.record.a,h.record.b,h.record.start,h.record.aX,h.record.cN,h.record.bz,h.record.source,h.record.aJ⟩:bC))))] rfl (aG.g (sr pl_50 c V rfl (by kernel_rfl))) (.R F)
def Em{a:LQ Event}{h:aa}{v:Int}{r:bC×Int}:jr a h v=some r->aR prog 70 [au 7 Event.row a,.agg (aa.row h),cI v] (rE (λr=>.dp [.agg (bC.row r.1),cI r.2]) r):=
 .S func70 rfl ntmps70 results70 rfl λS b F=>bA λy d=>.V 18 [.r 0,.r 1,.k nV d] rfl (.Z 7 [] rfl F) (.V 8 [] rfl (.Z 6 [] rfl F) (bA λy2 f=>.V 27 [.r 2,.k xg f,.r 3] rfl (.Z 6 [] rfl F) (.V 12 [] rfl (.Z 6 [] rfl F) (bA λy3 H=>.Z 11 [.k vg H] rfl F))))
def A5{a:LQ Event}{v:aM}{r:(LQ Range)×(LQ aa)×(LQ Head)×(LQ bC)×(LQ ai)×(LQ Event)×(LQ aa)}:l9 a v=some r->bg prog 24 [.d (au 7 Event.row a),.d (.agg (aM.row v))] ⟨[],[]⟩ (QE (.dp [.ref 0 0,.d (au 12 aa.row r.2.2.2.2.2.2)]) ⟨[.row 102 [.d (au 3 Range.row r.1),.d (au 12 aa.row r.2.1),.d (au 4 Head.row r.2.2.1),.vc 0 r.2.2.2.1.length,.d b7,.vc 1 r.2.2.2.2.1.length,.d (au 7 Event.row r.2.2.2.2.2.1)]],[bC.NL r.2.2.2.1,ai.EU r.2.2.2.2.1]⟩):=
 .S func24 rfl ntmps24 results24 rfl λS b F=>bA λc h=>bA λy2 f=>bA λy3 H=>bA λy4 q=>.BD 40 [.r 0,.r 1,.p 17,.k xX h,.k wV f,.k Ja H] rfl (.cf [] [] (.vc 0 y4.length) [.T (bC.NL y4)] Fo q (bA λy5 y=>.B 10 [] rfl (.cf [] [] (.vc 1 y5.length) [.T (ai.EU y5)] D5 y (.AD 14 [.p 5] rfl (.K F [1] [0,1])))))
def ta{a m s:LQ aa}{o:LQ Range}{p:LQ Head}{j:LQ Event}{k:LQ bC}{q:LQ ai}{D e n:Nat}{r:(LQ bC)×(LQ aa)}:fO a o m p j k s q=some r->bg prog 26 [.ref 0 0,.d (au 12 aa.row a)] ⟨[.row 102 [.d (au 3 Range.row o),.d (au 12 aa.row m),.d (au 4 Head.row p),.vc 0 D,.vc 1 e,.vc 2 n,.d (au 7 Event.row j)]],[⟨50,12,D,some (k.map bC.row)⟩,aa.DJ e s,ai.JP n q]⟩ (QE (.d (.dp [])) ⟨[.row 102 [.d (au 3 Range.row o),.d (au 12 aa.row m),.d (au 4 Head.row p),.vc 0 r.1.length,.vc 1 r.2.length,.vc 2 n,.d (au 7 Event.row j)]],[bC.NL r.1,aa.xG r.2,ai.JP n q]⟩):=
 have⟨_,R,E,Z,w⟩:=GP;have⟨_,I,K,L,B⟩:=pd;.S func26 rfl ntmps26 results26 rfl λS N F=>.A 7 [.l a] rfl (lf (.Sb (l:=k) (row:=bC.row) (tk:=0) (λz=>[(0,.ref 0 0),(8,.d (au 12 aa.row a)),(9,.d (cI (a.length:Int))),(10,.d (cI 0))]) (λz=>⟨[.row 102 [.d (au 3 Range.row o),.d (au 12 aa.row m),.d (au 4 Head.row p),.vc 0 z,.vc 1 e,.vc 2 n,.d (au 7 Event.row j)]],[⟨50,12,z,some (k.map bC.row)⟩,aa.DJ e s,ai.JP n q]⟩) rfl (.k4 rfl rfl rfl rfl (.nil)) rfl) (lf (.Sb (l:=s) (row:=aa.row) (tk:=1) (λz=>[(0,.ref 0 0),(8,.d (au 12 aa.row a)),(9,.d (cI (a.length:Int))),(10,.d (cI 0))]) (λz=>⟨[.row 102 [.d (au 3 Range.row o),.d (au 12 aa.row m),.d (au 4 Head.row p),.vc 0 k.length,.vc 1 z,.vc 2 n,.d (au 7 Event.row j)]],[bC.NL k,aa.DJ z s,ai.JP n q]⟩) rfl (.k4 rfl rfl rfl rfl (.nil)) rfl) (.lq [0,8,9] (λ⟨b,i,f⟩=>[(10,.d (cI f))]) (λ⟨b,i,f⟩=>[.c 0 3 (.vc 0 b.length),.c 0 4 (.vc 1 i.length),.t 0 (bC.NL b),.t 1 (aa.xG i)]) rfl rfl (λ⟨b,i,f⟩ q1 C=>.V 5 [] rfl (aN λQ=>.A 11 [.x Q,.r 1] rfl (aN λP=>bA λy T=>.o2 18 16 17 [[],[.O (.row 50 [.d (cI 0),.d (cI 0),.d (cI 0),.d (cI 0),.d (cS ([]:LQ uA)),.d (cS ([]:LQ uA)),.d (cI 0),.d (cI 0),.d (cI 0),.d (cB false),.d (cI 0),.d (cI 0)])],[.O (bC.o50 y.1)]] (.M (.ref 0 0) 0 1 (.M (.ref 0 0) 0 1 (.J (x:=.ref 0 6) 0 1 (λ_=>aG.g (bn Xs rfl)) (.M (.d (au 7 Event.row j)) 0 1 (.G (x:=.d (.agg (aa.row (nth a f.toNat)))) 0 1 ⟨aG.g (eJ v8 BW rfl rfl (zae rfl) rfl),aG.g (eJ v8 BW rfl rfl (zae rfl) rfl),trivial⟩ (.M (.ref 0 0) 0 1 (.M (.ref 0 0) 0 1 (.J (x:=.ref 0 0) 0 1 (λ_=>aG.g (bn GR rfl)) (.J (x:=.ref 0 3) 0 1 (λ_=>aG.g (bn Sp rfl)) (.M (.vc 0 b.length) 0 1 (.G (x:=.d (cI (b.length:Int))) 0 1 ⟨aG.g (xz (l:=b) (row:=bC.row) underlying31 rfl rfl),aG.g (xz (l:=b) (row:=bC.row) underlying31 rfl rfl),trivial⟩ (.J (x:=.d (cI ((b.length:Int)+1))) 0 1 (λ_=>aG.g (sk rfl rfl P.1 P.2)) (.J (x:=.d (.dp [.agg (bC.row y.1),cI y.2])) 0 1 (λ_=>(Dh (en 125 rfl) rfl rfl (Em T))) (.M (.d (.dp [.agg (bC.row y.1),cI y.2])) 0 1 (.M (.d (.agg (bC.row y.1))) 0 1 (.M (.d (cI y.2)) 0 2 (lf (.v (x:=.ref 2 0) 0 (nf zr_50 rfl) rfl rfl rfl rfl) (lf (.u 1 (tj rfl rfl rfl rfl (zae rfl) sz_50) rfl rfl rfl rfl) (lf (.nil rfl) (.V 7 [] rfl (aN λU=>.o1 9 8 [[],[.t 0 (bC.NL (b++([y.1]:LQ bC)))]] (.M (.ref 0 0) 0 1 (.M (.ref 0 0) 0 0 (.M (.ref 0 0) 0 0 (.J (x:=.ref 0 0) 0 0 (λ_=>aG.g (bn GR rfl)) (.J (x:=.ref 0 3) 0 0 (λ_=>aG.g (bn Sp rfl)) (.M (.vc 0 b.length) 0 0 (.G (x:=.d (.agg (bC.row y.1))) 0 0 ⟨aG.g (eJ one_50 sz_50 rfl rfl (zae rfl) rfl),trivial⟩ (.J (x:=.d (au 12 bC.row ([y.1]:LQ bC))) 0 0 (λ_=>(pV underlying31 R Z E rfl rfl rfl rfl rfl)) (lf (.v (x:=.vc 0 (b++([y.1]:LQ bC)).length) 0 (oa (l:=b) (l':=([y.1]:LQ bC)) (row:=bC.row) underlying31 R E Z rfl (by rw[w];decide) rfl rfl rfl rfl U) rfl rfl rfl rfl) (lf (.nil rfl) (aN λW=>.A 10 [.h W] rfl (.tl 1 3 C N))))))))))))) (aN λX=>.o1 9 8 [[],[.t 1 (aa.xG (i++([nth a f.toNat]:LQ aa)))]] (.M (.ref 0 0) 0 1 (.M (.ref 0 0) 0 0 (.M (.ref 0 0) 0 0 (.J (x:=.ref 0 0) 0 0 (λ_=>aG.g (bn GR rfl)) (.J (x:=.ref 0 4) 0 0 (λ_=>aG.g (bn fo_34_2 rfl)) (.M (.vc 1 i.length) 0 0 (.G (x:=.d (.agg (aa.row (nth a f.toNat)))) 0 0 ⟨aG.g (eJ v8 BW rfl rfl (zae rfl) rfl),trivial⟩ (.J (x:=.d (au 12 aa.row ([nth a f.toNat]:LQ aa))) 0 0 (λ_=>(pV underlying27 I L K rfl rfl rfl rfl rfl)) (lf (.v (x:=.vc 1 (i++([nth a f.toNat]:LQ aa)).length) 0 (oa (l:=i) (l':=([nth a f.toNat]:LQ aa)) (row:=aa.row) underlying27 I K L rfl (by rw[B];decide) rfl rfl rfl rfl X) rfl rfl rfl rfl) (lf (.nil rfl) (aN λY=>.A 10 [.h Y] rfl (.tl 1 3 C N))))))))))))))))))))))))))))))))))) (.A 1 [] rfl (lf (.fin0 func26 results26) (λH=>by
  cases H;cases C;exact⟨[0],[0,1,2],rfl,rfl,rfl,rfl,rfl,rfl,rfl,rfl,eB.WN (ds:=[]) trivial⟩)))))))
def sW{v0:LQ Event}{v:aM}{h:Batch}{H:eD}{r:aM×Int}:js v0 v h H=some r->aR prog 7 [au 7 Event.row v0,.agg (aM.row v),.agg (Batch.row h),.agg (eD.row H)] (rE (λr=>.dp [.agg (aM.row r.1),cI r.2]) r):=
 .S func7 rfl ntmps7 results7 rfl λS g F=>bA λy a=>.V 32 [.r 0,.r 1,.r 2,.r 3,.k CG a,.r 4] rfl (.Z 7 [] rfl F) (bA λy2 f=>.B 5 [] rfl (.cf [] [] (.dp [.ref 5 0,.d (au 12 aa.row y2.2.2.2.2.2.2)]) [.O (.row 102 [.d (au 3 Range.row y2.1),.d (au 12 aa.row y2.2.1),.d (au 4 Head.row y2.2.2.1),.vc 0 y2.2.2.2.1.length,.d (b7),.vc 1 y2.2.2.2.2.1.length,.d (au 7 Event.row y2.2.2.2.2.2.1)]),.T (bC.NL y2.2.2.2.1),.T (ai.EU y2.2.2.2.2.1)] A5 f (bA λy3 b=>.B 10 [] rfl (.cf [] [] (.vc 2 y3.length) [.T (aa.xG y3)] pL b (aN λe=>bA λy4 q=>.B 33 [.o e] rfl (.cf [5] [0,2,1] (.d (.dp [])) [.c 5 3 (.vc 0 y4.1.length),.c 5 4 (.vc 2 y4.2.length),.t 0 (bC.NL y4.1),.t 2 (aa.xG y4.2)] ta q (.B 6 [] rfl (lf (.freezeCell (l:=y4.1) (row:=bC.row) 5 3 rfl rfl rfl) (lf (.freezeCell (l:=y4.2) (row:=aa.row) 5 4 rfl rfl rfl) (lf (.freezeCell (l:=y2.2.2.2.2.1++y.2.2.1) (row:=ai.row) 5 5 rfl rfl rfl) (.Z 4 [] rfl F)))))))))))
def Fw{H:LQ Range}{r:Int}:qm H=some r->aR prog 27 [au 3 Range.row H] (rE cI r):=
 .S func27 rfl ntmps27 results27 rfl λS c F=>.A 16 [.l H] rfl (.lq [6,7] (λ⟨m,b⟩=>[(3,.d (cI m)),(8,.d (cI b))]) (λ_=>[]) rfl rfl (λ⟨m,b⟩ q1 a=>.V 5 [] rfl (aN λe=>aN λf=>aN λg=>aN λi=>aN λj=>.A 26 [.x e,.r 0,.h f,.h g,.h i,.h j] rfl (.tl 0 0 a c)) (.A 6 [] rfl (.R1 F a))))
def xh{q:aM}{r:lR}:iZ q=some r->aR prog 9 [.agg (aM.row q)] (rE (λr=>.agg (lR.row r)) r):=
 .S func9 rfl ntmps9 results9 rfl λS a F=>.A 33 [.r 0,.r 1,.l q.usages,.l q.cX,.l q.bc,.l q.aw.open_,.r 2,.l q.aw.aZ] rfl (.bj (ι:=Int) [1,2,3] (λG=>[]) (λG=>[.c 2 0 (.d (cI G))]) (λs=>j0 q s=some r) (λG=>bA λy e=>aN λf=>aN λg=>aN λi=>.AD 24 [.p 14,.k Fw e,.h f,.h g,.h i] rfl (.R F)) (λu j=>.lq [1,2,3,22,23] (λ⟨H,m⟩=>[(24,.d (cI H))]) (λ⟨H,m⟩=>[.c 2 0 (.d (cI m))]) rfl rfl (λ⟨H,m⟩ q1 b=>.V 5 [] rfl (aN λn=>aN λo=>aN λt=>.A 24 [.x n,.r 3,.h o,.h t] rfl (.tl 3 0 b a)) (.A 1 [] rfl (GO b (.zi j m))))))
def wD{v0:LQ Event}{f:LQ (LQ uA)}{r:Bool}:lB v0 f=some r->aR prog 3 [au 7 Event.row v0,au 1 (rSl 1 eW) f] (rE cB r):=
 have⟨_,P,E,R,K⟩:=Fg;have⟨_,j,m,_,_⟩:=Xm;have⟨_,T,a,n,b⟩:=Qw;.S func3 rfl ntmps3 results3 rfl λS L F=>bA λy1 X=>.V 12 [.k L6 X] rfl (bA λy2 Y=>.Z 5 [.k E1 Y] rfl F) (.AP 20 [.B (.d (.agg (aM.row (⟨(⟨([]:LQ Range),([]:LQ aa),([]:LQ Head)⟩:dH),([]:LQ bC),([]:LQ aa),([]:LQ ai)⟩:aM)))),.r 0,.r 1] rfl (aG.g (aG.le (sr pl_34 j m rfl rfl) (eB.d (.agg ⟨.nil 3,.nil 12,.nil 4,.nil 12,.nil 12,.nil 4,trivial⟩)))) (.lq [0,1,5,7] (λ⟨N,i,q,s,w,z,C,D⟩=>[(6,.d (cI N)),(8,.d (cI i))]) (λ⟨N,i,q,s,w,z,C,D⟩=>[.o 0 (.row 34 [.d (au 3 Range.row q),.d (au 12 aa.row s),.d (au 4 Head.row w),.d (au 12 bC.row z),.d (au 12 aa.row C),.d (au 4 ai.row D)])]) rfl rfl (λ⟨N,i,q,s,w,z,C,D⟩ q1 c=>.V 8 [.l f] rfl (aN λcD=>aN λdC=>bA λy3 ku=>.AP 27 [.d (.e0 1),.d (.ro ((rSl 1 eW) (nth f i.toNat))),.d (au 1 eW (nth f i.toNat)),.k HU ku,.r 2] rfl ⟨iG (l':=nth f i.toNat) (row:=eW) underlying42 P E R rfl (by rw[K];decide) rfl (.inl rfl) rfl rfl dC,s23.ix rfl rfl rfl cD,(R▸bu underlying42 P)⟩ (.I rfl (aN λfp=>.A 6 [.h fp] rfl (.tl 2 0 c L)) (.A 2 [] rfl (aN λiQ=>bA λy4 qA=>bA λy5 yg=>.o2 13 11 12 [[],[.O (.row 34 [.d b7,.d b7,.d b7,.d b7,.d b7,.d b7])],[.O (aM.o34 y5.1)]] (.J (x:=.d (.e0 7)) 0 1 (λ_=>((n▸bu underlying22 T))) (.M (.d (au 7 Event.row v0)) 0 1 (.J (x:=.d (au 7 Event.row v0)) 0 1 (λ_=>(iG (l':=v0) (row:=Event.row) underlying22 T a n rfl (by rw[b];decide) rfl (.inl rfl) rfl rfl iQ)) (.G (x:=.d (.agg (aM.row (⟨(⟨q,s,w⟩:dH),z,C,D⟩:aM)))) 0 1 ⟨aG.g (eJ La JO rfl rfl (zae rfl) rfl),aG.g (eJ La JO rfl rfl (zae rfl) rfl),trivial⟩ (.J (x:=.d (.agg (aM.row y4))) 0 1 (λ_=>(Dh (en 133 rfl) rfl rfl (uq qA))) (.G (x:=.d (.agg (Batch.row y3.1))) 0 1 ⟨aG.g (eJ Lc Su rfl rfl (zae rfl) rfl),aG.g (eJ Lc Su rfl rfl (zae rfl) rfl),trivial⟩ (.G (x:=.d (.agg (eD.row (⟨0,1073741824⟩:eD)))) 0 1 ⟨aG.g (eJ Lb Ss rfl rfl (zae rfl) rfl),aG.g (eJ Lb Ss rfl rfl (zae rfl) rfl),trivial⟩ (.J (x:=.d (.dp [.agg (aM.row y5.1),cI y5.2])) 0 1 (λ_=>(Dh (en 134 rfl) rfl rfl (sW yg))) (.M (.d (.dp [.agg (aM.row y5.1),cI y5.2])) 0 1 (.M (.d (.agg (aM.row y5.1))) 0 1 (.M (.d (cI y5.2)) 0 2 (lf (.v (x:=.ref 3 0) 0 (nf zr_34 rfl) rfl rfl rfl rfl) (lf (.u 1 (tj rfl rfl rfl rfl (zae rfl) JO) rfl rfl rfl rfl) (lf (.nil rfl) (.V 8 [] rfl (aN λmC=>.A 6 [.h mC] rfl (.tl 2 0 c L)) (aN λs9=>bA λy6 HH=>bA λy7 Vh=>aN λxe=>aN λFp=>aN λQ8=>aN λHL=>.V 77 [.l y3.1.records,.h s9,.k uq HH,.k xh Vh,.r 4,.H xe,.H Fp,.H Q8,.H HL,.l y5.1.usages,.l y5.1.bc,.l y5.1.cX,.l y5.1.aw.open_] rfl (.A 4 [] rfl (.R1 F c)) (.A 8 [] rfl (aN λL4=>bA λy8 Y5=>bA λy9 Y6=>.o2 13 11 12 [[],[.O (.row 34 [.d b7,.d b7,.d b7,.d b7,.d b7,.d b7])],[.O (aM.o34 y9.1)]] (.J (x:=.d (.e0 7)) 0 1 (λ_=>((n▸bu underlying22 T))) (.M (.d (au 7 Event.row v0)) 0 1 (.J (x:=.d (au 7 Event.row v0)) 0 1 (λ_=>(iG (l':=v0) (row:=Event.row) underlying22 T a n rfl (by rw[b];decide) rfl (.inl rfl) rfl rfl L4)) (.G (x:=.d (.agg (aM.row y5.1))) 0 1 ⟨aG.g (eJ La JO rfl rfl (zae rfl) rfl),aG.g (eJ La JO rfl rfl (zae rfl) rfl),trivial⟩ (.J (x:=.d (.agg (aM.row y8))) 0 1 (λ_=>(Dh (en 133 rfl) rfl rfl (uq Y5))) (.G (x:=.d (.agg (Batch.row y3.1))) 0 1 ⟨aG.g (eJ Lc Su rfl rfl (zae rfl) rfl),aG.g (eJ Lc Su rfl rfl (zae rfl) rfl),trivial⟩ (.G (x:=.d (.agg (eD.row (⟨0,1073741824⟩:eD)))) 0 1 ⟨aG.g (eJ Lb Ss rfl rfl (zae rfl) rfl),aG.g (eJ Lb Ss rfl rfl (zae rfl) rfl),trivial⟩ (.J (x:=.d (.dp [.agg (aM.row y9.1),cI y9.2])) 0 1 (λ_=>(Dh (en 134 rfl) rfl rfl (sW Y6))) (.M (.d (.dp [.agg (aM.row y9.1),cI y9.2])) 0 1 (.M (.d (.agg (aM.row y9.1))) 0 1 (.M (.d (cI y9.2)) 0 2 (lf (.v (x:=.ref 5 0) 0 (nf zr_34 rfl) rfl rfl rfl rfl) (lf (.u 1 (tj rfl rfl rfl rfl (zae rfl) JO) rfl rfl rfl rfl) (lf (.nil rfl) (.V 7 [] rfl (.A 4 [] rfl (.R1 F c)) (.A 6 [] rfl (.lq [0,1,5,6,7,8] (λU=>[(17,.d (cI U))]) (λ_=>[]) rfl rfl (λU q2 Q=>.V 9 [.l y5.1.usages] rfl (.A 8 [] rfl (.lq [0,1,5,6,7,8,17] (λW=>[(18,.d (cI W))]) (λ_=>[]) rfl rfl (λW q3 e=>.V 7 [] rfl (aN λL5=>aN λYX=>aN λYY=>aN λYZ=>aN λY0=>aN λY1=>.CD 46 [.p 43,.x L5,.x YX,.y YY,.y YZ,.y Y0,.y Y1] rfl (lf (.jI (env':=[(174,_),(187,_)]) rfl rfl rfl ⟨.inr (.inl rfl),⟨.inr (.inr ⟨_,_,rfl,rfl⟩),trivial⟩⟩ rfl (λhg=>aG.g (dV rfl rfl rfl))) (.V 3 [] rfl (.A 4 [] rfl (.R3 F e Q c)) (aN λY2=>.A 7 [.h Y2] rfl (.zl e))))) (aN λY3=>.A 7 [.h Y3] rfl (.zm e Q))))) (aN λY4=>.A 7 [.h Y4] rfl (λH=>by
  cases H;cases Q;exact .t 2 0 c rfl rfl rfl rfl rfl L rfl)))))))))))))))))))))))))))))))))))))))))) (bA λLm Q9=>.A 6 [.k E1 Q9] rfl (.R1 F c)))))
end Go.Proofs.YtleflofddacmdaaGreatDoor
namespace Go.Proofs.YtleflofddacmdaaGreatDoor
open Go.RowKit Go.Abs
def vi{α}[Inhabited α]{b}{x:α}:fH b (some x)=some (if b then x else default):=by
 unfold fH;split<;>rfl
def HW{α R}[Inhabited α]{step} l(p:α->Bool)(fin bad:R)(hl:l.length<18446744073709551616)
  (h1:∀i:Int,0<=i->i<l.length->step i=some (if p (nth l i.toNat)then .inl (i+1)else .inr bad)) (h2:∀i:Int,i=l.length->step i=some (.inr fin)):loop step 0=some (if l.all p then fin else bad):=by
 have:=dM (step:=step) (λi:Int=>some (if(l.drop i.toNat).all p=true then fin else bad)) (λi=>0<=i/\i<=(l.length)) (λi=>(l.length - i).toNat) (λi H=>by
  by_cases hi:i<(l.length)
  .have a:=j7 (l:=l) (k:=i.toNat) (by omega);rw[h1 i H.1 hi];by_cases h:p (nth l i.toNat)=true
   .rw[zab h];refine .inr ⟨i+1,rfl,⟨by omega,by omega⟩,by omega,?_⟩;rw[show(i+1).toNat=i.toNat+1 from by omega,a];simp[h]
   simp_all
  .have:i=(l.length):=by omega
   simp_all) (s:=0) ⟨by omega,by omega⟩ (by omega)
 simp_all
def HX(c:uA):= decide (48<=c) && decide (c<=57)
def oV(s:LQ uA):= s.all HX && decide (1<=s.length) && decide (s.length<=15)
def L8 s(hl:s.length<1000000000):ji s=some (oV s):=by
 unfold ji;rw[HW s HX (decide ((s.length:Int)>=1) && decide ((s.length:Int)<=15)) false (by omega) (λi h0 h1=>?_) (λi hi=>?_)]
 .unfold oV;cases s.all HX<;>simp
  grind
 .unfold oG sH;rw[ae (by omega)];simp;rw[ae (by omega)];unfold HX
  grind
 .unfold oG oF;rw[zaa (by grind)];rfl
def Vj s(hl:s.length<9223372036854775808):tA s=some (oV s):=by
 unfold tA;rw[HW s HX (decide ((s.length:Int)>=1) && decide ((s.length:Int)<=15)) false (by omega) (λi h0 h1=>?_) (λi hi=>?_)]
 .unfold oV;cases s.all HX<;>simp
  grind
 .unfold sC;rw[zab (by simp_all),ae (by omega),ae (by omega),ae (by omega)];unfold HX;have e:decide (nth s i.toNat<48)=!decide (48<=nth s i.toNat):=by rw[←decide_not];simp
  have h:decide (nth s i.toNat > 57)=!decide (nth s i.toNat<=57):=by rw[←decide_not];simp
  rw[e,h];cases decide (48<=nth s i.toNat)<;>cases decide (nth s i.toNat<=57)<;>rfl
 .unfold sC sB;rw[zaa (by grind)];rfl
def cL(r:aa):Int:=
 if ¬(1<=r.source/\r.source<=99/\1<=r.aJ/\r.aJ<=999999999)then 6
 else if ¬(1<=r.kind/\r.kind<=4)then 7
 else if oV r.a=false∨oV r.b=false/\¬((r.kind=3∨r.kind=4)/\r.b=[])then 12
 else if ¬(0<=r.start/\r.start<=12622780799)then 15
 else if ¬(0<=r.aX/\r.aX<=1099511627776)∨r.kind=1/\r.aX > 604800 then 6
 else if r.kind=1/\r.start+r.aX > 12622780800 then 15
 else if ¬(0<=r.call/\r.call<=999999999/\0<=r.part/\r.part<=99)then 6
 else if ¬(r.part=0↔r.call=0)∨r.last=true/\r.part=0 then 8
 else if ¬(0<=r.cN/\r.cN<=999)then 6
 else if r.bz=true/\r.cN=0 then 8
 else 0
theorem yo{α:Type}{b p}[Decidable p]{x y x' H:α}(h:b=true↔p)(hx:p->x=x')(hy:¬p->y=H):(if b then x else y)=if p then x' else H:=by
 simp_all
def Zg{α:Type}{p}[Decidable p]{x y:α}:(if p then some x else some y)=some (if p then x else y):=by split<;>rfl
def Tq r(ha:r.a.length<1000000000)(h:r.b.length<1000000000):nk r=some (cL r):=by
 have key:∀m,(m=1099511627776/\r.kind≠1)∨(m=604800/\r.kind=1)->gL r m=some (cL r):=by
  intro m H;unfold gL cL;simp only[dq,L8 _ ha,L8 _ h,zac,vi];simp only[←Zg];refine yo (by grind) (λ_=>rfl) (λh1=>?_);refine yo (by grind) (λ_=>rfl) (λh2=>?_);refine yo (by grind) (λ_=>rfl) (λh3=>?_);refine yo (by grind) (λ_=>rfl) (λh4=>?_);refine yo (by grind) (λ_=>rfl) (λc=>?_);rw[ae (by omega)]
  grind
 unfold nk;simp_all
structure Good(r:aa):Prop where
 source:1<=r.source/\r.source<=99
 aJ:1<=r.aJ/\r.aJ<=999999999
 kind:1<=r.kind/\r.kind<=4
 a:oV r.a=true
 b:oV r.b=true∨(r.kind=3∨r.kind=4)/\r.b=[]
 start:0<=r.start/\r.start<=12622780799
 aX:0<=r.aX/\r.aX<=1099511627776
 call:0<=r.call/\r.call<=999999999
 part:0<=r.part/\r.part<=99
 cN:0<=r.cN/\r.cN<=999
def pP{r}(h:cL r=0):Good r:=by
 unfold cL at h;split at h;· cases h
 split at h;· cases h
 split at h;· cases h
 split at h;· cases h
 split at h;· cases h
 split at h;· cases h
 split at h;· cases h
 split at h;· cases h
 split at h;· cases h
 split at h;· cases h
 rename_i h1 h2 h3 h4 a b c d e H;refine⟨by omega,by omega,by omega,?_,?_,by omega,by omega,by omega,by omega,by omega⟩
 .simp_all
 grind
def nX{s}(h:oV s=true):s.length<=15:=by
 unfold oV at h;simp_all
def HY(r:aa):= [([118,116,100,99].take r.kind.toNat).drop (r.kind-1).toNat,Go.Lib.itoa r.source,Go.Lib.itoa r.aJ,r.a,if r.b=[]then[45]else r.b,Go.Lib.itoa r.start,Go.Lib.itoa r.aX]
def E2(r:aa):= if r.part=0 then[]else[[112,97,114,116],Go.Lib.itoa r.call,Go.Lib.itoa r.part]++if r.last then[[108,97,115,116]]else[]
def A6(r:aa):= if r.cN=0 then[]else[if r.bz then[105,110]else[111,117,116],Go.Lib.itoa r.cN]
def uy(r:aa):= HY r++E2 r++A6 r
def z8(r:aa):= Go.Lib.join (uy r) [32]
def Zh sep xs m(h:∀x,x∈xs->x.length<=m):(Go.Lib.join xs sep).length<=xs.length*(m+sep.length):=by
 cases xs with
 | nil=>simp[Go.Lib.join]
 | cons x r =>
  rw[Go.Lib.join_cons];have h1:∀(r:LQ (LQ uA)),(∀x,x∈r->x.length<=m)->(Go.Lib.joinTail sep r).length<=r.length*(m+sep.length):=by
   intro r
   induction r with
   | nil=>simp[Go.Lib.joinTail]
   | cons y r i =>
    intro a;have:=i λz H=>a z (zak _ H)
    have h2:=a y zal;simp[Go.Lib.joinTail,zcu]at *;omega
  have h3:=h1 r λz H=>h z (zak _ H)
  have h4:=h x zal;simp[zcu]at *;omega
def wE{n}(h0:0<=n)(h1:n<=9223372036854775807):(Go.Lib.itoa n).length<=21:=Go.Lib.itoa_length_le n (by omega) h1
def Zi{r}(g:Good r):(uy r).length<=13/\∀x,x∈uy r->x.length<=21:=by
 have ha:=nX g.a;have c:r.b.length<=15:=by
  rcases g.b with h|h
  .exact nX h
  simp_all
 obtain⟨d,e,f,_,_,H,i,j,k,l⟩:=g;refine⟨?_,λx hx=>?_⟩
 .have h1:(E2 r).length<=4:=by unfold E2;grind
  have h2:(A6 r).length<=2:=by unfold A6;split<;>simp
  have h3:(HY r).length=7:=rfl;simp only[uy,zar];omega
 .unfold uy at hx;rcases zbi.1 hx with hx|hx
  .rcases zbi.1 hx with hx|hx
   .unfold HY at hx;simp only[zao,zem,or_false]at hx;rcases hx with rfl|rfl|rfl|rfl|rfl|rfl|rfl
    .grind
    .exact wE (by omega) (by omega)
    .exact wE (by omega) (by omega)
    .omega
    .grind
    .exact wE (by omega) (by omega)
    .exact wE (by omega) (by omega)
   .unfold E2 at hx;split at hx
    .cases hx
    .rcases zbi.1 hx with hx|hx
     .simp only[zao,zem,or_false]at hx;rcases hx with rfl|rfl|rfl
      .simp
      .exact wE (by omega) (by omega)
      .exact wE (by omega) (by omega)
     simp_all
  .unfold A6 at hx;split at hx
   .cases hx
   .simp only[zao,zem,or_false]at hx;rcases hx with rfl|rfl
    .split<;>simp
    .exact wE (by omega) (by omega)
def A7{n}(h0:0<=n)(h1:n<=9223372036854775807):tZ n=some (Go.Lib.itoa n):=by
 unfold tZ;rw[ae (by omega)]
def Oi r(h:cL r=0):dr r=some (z8 r,0):=by
 have g:=pP h;have ha:=nX g.a;have e:r.b.length<=15:=by
  rcases g.b with h|h
  .exact nX h
  simp_all
 have T:∀w,w=uy r->ga w=some (z8 r,0):=by
  rintro w rfl;unfold ga Qy;obtain⟨f,d⟩:=Zi g;have:=Zh [32] (uy r) 21 d;simp only[zap,zdu]at this;rw[ae ⟨by omega,by omega⟩];rfl
 have E:∀w,w=HY r++E2 r->w.length<=11->eV r w=some (z8 r,0):=by
  intro w c hl;unfold eV;by_cases ht:r.cN=0
  .rw[zaa (by simp[ht])];exact T _ (by rw[c,uy,A6,zab ht];simp)
  .rw[zab (by simp[ht])];unfold iT;rw[A7 g.cN.1 (by have:=g.cN.2;omega)];simp only[zac];split
   .rename_i hi;rw[ae (by grind)];exact T _ (by rw[c,uy,A6,zaa ht,zab hi])
   .rename_i hi;rw[ae (by grind)];exact T _ (by rw[c,uy,A6,zaa ht,zaa hi])
 have o:∀b,b=(if r.b=[]then[45]else r.b)->gf r b=some (z8 r,0):=by
  rintro b rfl;unfold gf;have i:=g.kind;rw[ae (by omega),ae (by grind),A7 (by have:=g.source;omega) (by have:=g.source;omega),A7 (by have:=g.aJ;omega) (by have:=g.aJ;omega),A7 g.start.1 (by have:=g.start;omega),A7 g.aX.1 (by have:=g.aX;omega)];simp only[zac];by_cases H:r.part=0
  .rw[zaa (by simp[H])];exact E _ (by rw[E2,zab H];simp[HY]) (by simp)
  .rw[zab (by simp[H]),A7 g.call.1 (by have:=g.call;omega),A7 g.part.1 (by have:=g.part;omega)];simp only[zac];rw[ae (by simp)];split
   .rename_i hl;rw[ae (by simp)];exact E _ (by rw[E2,zaa H,zab hl];simp[HY]) (by simp)
   .rename_i hl;exact E _ (by rw[E2,zaa H,zaa hl];simp[HY]) (by simp)
 unfold dr;rw[Tq r (by omega) (by omega),h]
 grind
def yp r(ha:r.a.length<1000000000)(H:r.b.length<1000000000):dr r=some (if cL r=0 then z8 r else[],cL r):=by
 by_cases h:cL r=0
 .rw[Oi r h,zab h,h]
 .unfold dr;rw[Tq r ha H];simp_all
def bB(a b:aa):= decide (a.source=b.source) && decide (a.call=b.call)
def pQ{a b}:bB a b=true↔a.source=b.source/\a.call=b.call:=by simp[bB]
def nY{a b}(h:bB a b=true):bB b a=true:=by rw[pQ]at *;omega
def yq{a b c}(h:bB a b=true)(h':bB b c=true):bB a c=true:=by rw[pQ]at *;omega
def CJ{a x y}(h:bB x y=true):bB a x=bB a y:=by
 rw[pQ]at h;simp[bB,h.1,h.2]
def Lt(a b:aa):= a.source<b.source∨a.source=b.source/\(a.call<b.call∨a.call=b.call/\a.part<b.part)
instance (a b:aa):Decidable (Lt a b):=by unfold Lt;infer_instance
def Le(a b:aa):= ¬Lt b a
instance (a b:aa):Decidable (Le a b):=by unfold Le;infer_instance
def L9{a b}:Le a b↔a.source<b.source∨a.source=b.source/\(a.call<b.call∨a.call=b.call/\a.part<=b.part):=by
 unfold Le Lt;omega
def Zj{a b c}(h:Le a b)(h':Le b c):Le a c:=by rw[L9]at *;omega
def Oj{a b}(h:Lt a b):Le a b:=by rw[L9];unfold Lt at h;omega
def Le_part{a b}(h:Le a b)(H:bB a b=true):a.part<=b.part:=by rw[L9]at h;rw[pQ]at H;omega
abbrev Srt(l:LQ aa):= l.Pairwise Le
def oW:List aa->aa->List aa
 | [],p=>[p]
 | r::l,p=>if Lt p r then p::r::l else r::oW l p
def vj:∀l p,(oW l p).Perm (p::l)
 | [],p=>.refl _
 | r::l,p=>by
  unfold oW;split
  .exact .refl _
  .exact((vj l p).cons r).trans (.swap _ _ _)
def HZ l(p):(oW l p).length=l.length+1:=(vj l p).length_eq
def CK{l p x}:x∈oW l p↔x=p∨x∈l:=by rw[(vj l p).mem_iff,zao]
def H0:∀{l p},Srt l->Srt (oW l p)
 | [],p,_=>by simp[oW]
 | r::l,p,h=>by
  unfold oW;have h2:=zat.1 h;split
  .rename_i H;refine zat.2 ⟨λx hx=>?_,h⟩;rcases zao.1 hx with e|hx
   .rw[e];exact Oj H
   .exact Zj (Oj H) (h2.1 x hx)
  .rename_i H;refine zat.2 ⟨λx hx=>?_,H0 h2.2⟩;rcases CK.1 hx with e|hx
   .rw[e];exact H
   simp_all
def E3 q{p}(h:q p=false):∀l,(oW l p).filter q=l.filter q
 | []=>by simp[oW,h]
 | r::l=>by
  unfold oW;split
  .rw[zep (by simp[h])]
  .simp[zby,E3 q h l]
def oq(last:Bool)(x:aa):Int->List aa->List aa×List aa
 | _,[]=>([],[])
 | n,r::l=>if bB r x=true/\r.part=n then if last=true/\r.last=true then([r],l)else(r::(oq last x (n+1) l).1,(oq last x (n+1) l).2)else((oq last x n l).1,r::(oq last x n l).2)
def yr last(x):∀n l,((oq last x n l).1++(oq last x n l).2).Perm l
 | _,[]=>.refl _
 | n,r::l=>by
  unfold oq;split
  .split
   .exact .refl _
   .exact(yr last x (n+1) l).cons r
  .exact(List.perm_middle).trans ((yr last x n l).cons r)
def CLq last(x):∀n l,(oq last x n l).2.Sublist l
 | _,[]=>.slnil
 | n,r::l=>by
  unfold oq;split
  .split
   .simp_all
   .exact(CLq last x (n+1) l).cons r
  .exact(CLq last x n l).cons_cons r
def A8 last x q(h:∀r,bB r x=true->q r=false):∀n l,(oq last x n l).2.filter q=l.filter q
 | _,[]=>rfl
 | n,r::l=>by
  unfold oq;split
  .split
   .rw[zep (by simp_all)]
   .rw[zep (by simp_all)];exact A8 last x q h (n+1) l
  .simp[zby,A8 last x q h n l]
def oX last x q(H:∀r,bB r x=true->q r=true):∀n l,(oq last x n (l.filter q)).1=(oq last x n l).1
 | _,[]=>rfl
 | n,r::l=>by
  by_cases h:q r=true
  .rw[List.filter_cons_of_pos h];unfold oq;simp[oX last x q H (n+1) l,oX last x q H n l]
   grind
  .rw[zep h,oX last x q H n l]
   conv=>rhs;unfold oq
   rw[zaa (λa=>h (H r a.1))]
def Ma last{x y}(h:bB x y=true):∀n l,oq last x n l=oq last y n l
 | _,[]=>rfl
 | n,r::l=>by
  unfold oq;rw[CJ h,Ma last h (n+1) l,Ma last h n l]
def H2 last{x}:∀{n l},(∀r,r∈l->¬(bB r x=true/\r.part=n))->oq last x n l=([],l)
 | _,[],_=>rfl
 | n,r::l,h=>by
  unfold oq;rw[zaa (h r (zal ..)),H2 last (λy hy=>h y (zak _ hy))]
def Ts last{x n l}:∀{pre},(∀r,r∈pre->¬(bB r x=true/\r.part=n))->oq last x n (pre++l)=((oq last x n l).1,pre++(oq last x n l).2)
 | [],_=>rfl
 | r::pre,h=>by
  rw[List.cons_append]
  conv=>lhs;unfold oq
  rw[zaa (h r (zal ..)),Ts last (λy hy=>h y (zak _ hy))];rfl
def H3 last{x post}(h:∀r,r∈post->bB r x=false):∀{n l},oq last x n (l++post)=((oq last x n l).1,(oq last x n l).2++post)
 | n,[]=>by rw[H2 last (λr H a=>by simp_all)];rfl
 | n,r::l=>by
  rw[List.cons_append];unfold oq;simp[H3 last h,H3 last h ]
  grind
def CM:List aa->Int
 | []=>0
 | r::l=>r.aX+CM l
def Tt(q:aa)(u:Int):aa:=⟨q.source,q.aJ,q.kind,q.a,q.b,q.start,u,0,0,false,q.cN,q.bz⟩
def Comm(p q:aa):= p.source=q.source/\p.call=q.call/\p.kind=q.kind/\p.a=q.a/\p.b=q.b/\p.cN=q.cN/\p.bz=q.bz
instance (a b:aa):Decidable (Comm a b):=by unfold Comm;infer_instance
def yt:List aa->Option aa
 | []=>none
 | q::l=>if((q::l).all λp=>decide (p.part≠0/\cL p=0/\Comm p q))=true/\cL (Tt q (CM (q::l)))=0 then some (Tt q (CM (q::l)))else none
def numB:Int->List aa->Bool
 | _,[]=>true
 | n,r::l=>decide (r.part=n) && decide (r.last=l.isEmpty) && numB (n+1) l
def pR(l:LQ aa):= if numB 1 l then yt l else none
theorem H4:pR []=none:=rfl
def fU
 | 0,now,_=>([],now)
 | m+1,now,x=>match pR (oq true x 1 now).1 with
  | none=>([],now)
  | some w=>(w::(fU m (oq true x 1 now).2 x).1,(fU m (oq true x 1 now).2 x).2)
def jt(now:LQ aa)(r:aa):= if r.part=0 then([r],now)else fU (now.length+2) (oW now r) r
def fu:List aa->List aa->List aa×List aa
 | now,[]=>([],now)
 | now,r::l=>((jt now r).1++(fu (jt now r).2 l).1,(fu (jt now r).2 l).2)
structure Opn(l:LQ aa):Prop where
 MK:Srt l
 ok:∀r,r∈l->cL r=0/\r.part≠0
 nc:∀x,pR (oq true x 1 l).1=none
def CN{last x n l}:(oq last x n l).1.length+(oq last x n l).2.length=l.length:=by
 have:=(yr last x n l).length_eq
 rwa [zar]at this
def vk{l w}(h:pR l=some w):l≠[]:=by intro e;rw[e]at h;cases h
def H5(x):∀m H,H.length<m->pR (oq true x 1 (fU m H x).2).1=none/\(fU m H x).2.Sublist H/\∀q:aa->Bool,(∀r,bB r x=true->q r=false)->(fU m H x).2.filter q=H.filter q
 | 0,H,h=>by omega
 | m+1,H,h=>by
  unfold fU;split
  .simp_all
  .rename_i w b;have hl:=CN (last:=true) (x:=x) (n:=1) (l:=H);have c:=zcn.2 (vk b);obtain⟨h1,h2,h3⟩:=H5 x m (oq true x 1 H).2 (by omega);refine⟨h1,h2.trans (CLq _ _ _ _),λq a=>?_⟩;rw[h3 q a,A8 true x q a]
def Vk{now r}(h:Opn now)(c:cL r=0):Opn (jt now r).2:=by
 unfold jt;split
 .exact h
 .obtain⟨h1,h2,h3⟩:=H5 r (now.length+2) (oW now r) (by rw[HZ];omega);refine⟨(H0 h.MK).sublist h2,λy hy=>?_,λx=>?_⟩
  .rcases CK.1 (h2.subset hy)with e|hy
   .rw[e];omega
   .exact h.ok y hy
  .by_cases a:bB x r=true
   .rw[Ma true a];exact h1
   .have b:=λy hy=>by
     cases H:bB y x with
     | false=>omega
     | true=>exact absurd (yq (nY H) hy) a
    have e:=h3 (λy=>bB y x) b;rw[E3 _ (by simpa using b r (by simp[bB]))]at e;rw[←oX true x (λy=>bB y x) (λ_ h=>h),e,oX true x _ (λ_ h=>h)];exact h.nc x
def J4:∀{l now},Opn now->(∀r,r∈l->cL r=0)->Opn (fu now l).2
 | [],_,h,_=>h
 | r::l,_,h,hl=>by
  unfold fu;exact J4 (Vk h (hl r (zal ..))) (λy hy=>hl y (zak _ hy))
abbrev Ol(l:LQ aa):= l.Pairwise λa b=>¬(bB a b=true/\a.part=b.part)
def Zk(T:LQ aa)(x:aa)(n:Int):= T.find? λr=>bB r x && decide (r.part=n)
def Vl{a b}(h:¬(bB a b=true/\a.part=b.part)):¬(bB b a=true/\b.part=a.part):=λh'=>h ⟨nY h'.1,h'.2.symm⟩
def Ol.perm{l l'}(h:Ol l)(p:l.Perm l'):Ol l':=(p.pairwise_iff (λh=>Vl h)).1 h
def Tu{T}(h:Ol T){x n r}:Zk T x n=some r↔r∈T/\bB r x=true/\r.part=n:=by
 constructor
 .intro H;have h1:=List.find?_some H;simp at h1;exact⟨List.mem_of_find?_eq_some H,h1⟩
 .intro⟨hm,a,hn⟩
  induction T with
  | nil=>cases hm
  | cons y T i =>
   have h2:=zat.1 h;unfold Zk;rcases zao.1 hm with e|hm
   .rw[←e,List.find?_cons_of_pos (by grind)]
   .rw[List.find?_cons_of_neg (by
     intro hy;simp at hy;exact h2.1 r hm ⟨yq hy.1 (nY a),by omega⟩)]
    exact i h2.2 hm
def Zl{T H}(h:Ol T)(p:T.Perm H) x(n):Zk T x n=Zk H x n:=by
 apply Option.ext;intro r;rw[Tu h,Tu (h.perm p),p.mem_iff]
def chS(T:List aa)(x:aa):Nat->Int->List aa
 | 0,_=>[]
 | m+1,n=>match Zk T x n with
  | none=>[]
  | some r=>r::if r.last then[]else chS T x m (n+1)
def vn{T H x y}(h:∀n,Zk T x n=Zk H y n):∀m n,chS T x m n=chS H y m n
 | 0,_=>rfl
 | m+1,n=>by
  unfold chS;rw[h n,vn h m (n+1)]
def FP{T x}:∀m n r,r∈chS T x m n->r∈T/\bB r x=true
 | 0,_,r,h=>by cases h
 | m+1,n,r,h=>by
  unfold chS at h;split at h
  .cases h
  .rename_i y hy;have h1:=List.find?_some hy;simp at h1;rcases zao.1 h with e|h
   .rw[e];exact⟨List.mem_of_find?_eq_some hy,h1.1⟩
   .split at h
    .cases h
    .exact FP m (n+1) r h
abbrev PC(T:LQ aa)(x:aa):= chS T x 99 1
def CO{T H}(h:Ol T)(p:T.Perm H)(x):PC T x=PC H x:=vn (Zl h p x) _ _
def chT_eqx{T x y}(h:bB x y=true):PC T x=PC T y:=vn (λn=>by
 unfold Zk;congr 1;funext r;rw[CJ h]) _ _
def Aa{C U x}(h:∀r,r∈C->bB r x=false)(n):Zk (C++U) x n=Zk U x n:=by
 unfold Zk;rw[List.find?_append,List.find?_eq_none.2 (λr H=>by grind)];rfl
def Tv(T:LQ aa)(w:aa)(U:LQ aa):= Ol T/\∃x,pR (PC T x)=some w/\T.Perm (PC T x++U)
def Tv.perm{T H w U}(h:Tv T w U)(p:T.Perm H):Tv H w U:=by
 obtain⟨h1,x,h2,h3⟩:=h;refine⟨h1.perm p,x,?_,?_⟩
 .rw[←CO h1 p];exact h2
 .rw[←CO h1 p];exact p.symm.trans h3
def Tv.len{T w U}(h:Tv T w U):U.length<T.length:=by
 obtain⟨h1,x,h2,h3⟩:=h;have:=h3.length_eq;have h4:=zcn.2 (vk h2);rw[zar]at this;omega
def Tv.dist{T w U}(h:Tv T w U):Ol U:=by
 obtain⟨h1,x,h2,h3⟩:=h;exact(zdv.1 (h1.perm h3)).2.1
def filter_none{p}{l:LQ aa}(h:∀r,r∈l->p r=false):l.filter p=[]:=zfq.2 (λr H=>by grind)
def filter_all{p}{l:LQ aa}(h:∀r,r∈l->p r=true):l.filter p=l:=zdc.2 h
def Mb p(l:LQ aa):l.Perm (l.filter p++l.filter λr=>!p r):=(List.filter_append_perm p l).symm
def Tv.diamond{T w b U h}(h1:Tv T w U)(h2:Tv T b h):w=b/\U.Perm h∨∃V,Tv U b V/\Tv h w V:=by
 have k:=h1.dist;have d2:=h2.dist;obtain⟨f,x,hx,p⟩:=h1;obtain⟨_,y,hy,a⟩:=h2;by_cases c:bB x y=true
 .left;rw[chT_eqx c]at hx p;exact⟨by grind,(List.perm_append_left_iff _).1 (p.symm.trans a)⟩
 .right;have nx:∀r,r∈PC T x->bB r y=false:=λr H=>by
   cases d:bB r y with
   | false=>rfl
   | true=>exact absurd (yq (nY (FP _ _ r H).2) d) c
  have n:∀r,r∈PC T y->bB r x=false:=λr H=>by
   cases e:bB r x with
   | false=>rfl
   | true=>exact absurd (nY (yq (nY (FP _ _ r H).2) e)) c
  have g:PC U y=PC T y:=by
   rw[CO f p y];exact(vn (Aa nx) _ _).symm
  have i:PC h x=PC T x:=by
   rw[CO f a x];exact(vn (Aa n) _ _).symm
  have l:=p.symm.trans a;have q1:=l.filter (λr=>bB r y);rw[zfk,zfk,filter_none nx,filter_all (λr H=>(FP _ _ r H).2)]at q1;have j:U.Perm (PC T y++(h.filter (λr=>bB r y)++U.filter (λr=>!bB r y))):=by
   refine(Mb (λr=>bB r y) U).trans ?_;rw[←zas];exact q1.append_right _
  refine⟨h.filter (λr=>bB r y)++U.filter (λr=>!bB r y),⟨k,y,by rw[g];exact hy,by rw[g];exact j⟩,⟨d2,x,by rw[i];exact hx,?_⟩⟩;rw[i];have m:T.Perm (PC T y++(PC T x++(h.filter (λr=>bB r y)++U.filter (λr=>!bB r y)))):=by
   refine p.trans ((j.append_left _).trans ?_);rw[←zas,←zas (PC T y)];exact List.perm_append_comm.append_right _
  exact(List.perm_append_left_iff _).1 (a.symm.trans m)
inductive zA:List aa->List aa->List aa->Prop where
 | nil {T U:List aa}:T.Perm U->zA T [] U
 | cons {T U V:List aa} {w:aa} {o:List aa}:Tv T w U->zA U o V->zA T (w::o) V
def NF(T:LQ aa):= ∀w U,¬Tv T w U
def zA.perm{T H o U}(h:zA T o U)(p:T.Perm H):zA H o U:=by
 cases h with
 | nil q=>exact .nil (p.symm.trans q)
 | cons r s=>exact .cons (r.perm p) s
theorem zA.ex:∀n T,T.length<=n->∃o U,zA T o U/\NF U
 | n,T,hn=>by
  by_cases h:NF T
  .exact⟨[],T,.nil (.refl _),h⟩
  .simp[NF,Classical.not_forall,Classical.not_not]at h;obtain⟨w,U,h⟩:=h;have hl:=h.len
   match n,hn with
   | 0,hn=>omega
   | n+1,hn =>
    obtain⟨o,V,h1,h2⟩:=zA.ex n U (by omega);exact⟨w::o,V,.cons h h1,h2⟩
theorem zA.uniq:∀n {T o1 o2 U h},T.length<=n->zA T o1 U->NF U->zA T o2 h->NF h->o1.Perm o2/\U.Perm h
 | n,T,o1,o2,U,h,hn,h1,H,h2,n2=>by
  cases h1 with
  | nil f =>
   cases h2 with
   | nil c=>exact⟨.refl _,f.symm.trans c⟩
   | cons r s=>exact absurd (r.perm f) (H _ _)
  | cons d s1 =>
   cases h2 with
   | nil c=>exact absurd (d.perm c) (n2 _ _)
   | cons g s2 =>
    have l1:=d.len;have l2:=g.len
    match n,hn with
    | 0,hn=>omega
    | n+1,hn =>
     rcases d.diamond g with⟨e,p⟩|⟨V,k,k2⟩
     .obtain⟨a,b⟩:=zA.uniq n (by omega) s1 H (s2.perm p.symm) n2;simp_all
     .obtain⟨o,l,s3,i⟩:=zA.ex V.length V (zag _);obtain⟨j,b1⟩:=zA.uniq n (by omega) s1 H (.cons k s3) i;obtain⟨a2,b2⟩:=zA.uniq n (by omega) s2 n2 (.cons k2 s3) i;exact⟨(j.cons _).trans ((List.Perm.swap _ _ _).trans (a2.cons _).symm),b1.trans b2.symm⟩
def rf:Int->List Int->List aa->List aa×List aa
 | _,_,[]=>([],[])
 | _,[],r::l=>([],r::l)
 | i,a::h,r::l=>if a=i then(r::(rf (i+1) h l).1,(rf (i+1) h l).2)else((rf (i+1) (a::h) l).1,r::(rf (i+1) (a::h) l).2)
def o9(last:Bool)(x:aa):Int->Int->List aa->List Int
 | _,_,[]=>[]
 | n,i,r::l=>if bB r x=true/\r.part=n then if last=true/\r.last=true then[i]else i::o9 last x (n+1) (i+1) l else o9 last x n (i+1) l
def vo i(l):rf i [] l=([],l):=by cases l<;>rfl
def CQ last(x):∀(n i) l,∀a,a∈o9 last x n i l->i<=a/\a<i+l.length
 | _,_,[]=>by simp[o9]
 | n,i,r::l=>by
  intro a h;unfold o9 at h;simp;split at h
  .split at h
   .grind
   .rcases zao.1 h with e|h
    .omega
    .have:=CQ last x (n+1) (i+1) l a h;omega
  .have:=CQ last x n (i+1) l a h;omega
def H6 last(x):∀(n i) l,(o9 last x n i l).Pairwise (· < ·)
 | _,_,[]=>.nil
 | n,i,r::l=>by
  unfold o9;split
  .split
   .simp
   .refine zat.2 ⟨λa ha=>?_,H6 last x (n+1) (i+1) l⟩;have:=CQ last x (n+1) (i+1) l a ha;omega
  .exact H6 last x n (i+1) l
def Rc{i H r l}(h:∀a,a∈H->i+1<=a):rf i H (r::l)=((rf (i+1) H l).1,r::(rf (i+1) H l).2):=by
 cases H with
 | nil=>rw[vo,vo]
 | cons a H =>
  conv=>lhs;unfold rf
  rw[zaa (by have:=h a (zal ..);omega)]
def A9 last(x):∀(n i) l,rf i (o9 last x n i l) l=oq last x n l
 | _,_,[]=>by simp[rf,oq]
 | n,i,r::l=>by
  unfold o9 oq;split
  .split
   .unfold rf;rw[zab rfl,vo]
   .unfold rf;rw[zab rfl,A9 last x (n+1) (i+1) l]
  .rw[Rc (λa ha=>(CQ _ _ _ _ _ a ha).1),A9 last x n (i+1) l]
def Mc(x:aa)(l:LQ aa):= l.takeWhile λr=>bB r x
def H7(x:aa)(l:LQ aa):= l.dropWhile λr=>bB r x
def Re(x):bB x x=true:=by simp[bB]
theorem Zm x(l):Mc x l++H7 x l=l:=List.takeWhile_append_dropWhile
def Zn{x l}:∀r,r∈Mc x l->bB r x=true:=λr h=>by
 have:=List.all_takeWhile (p:=λr=>bB r x) (l:=l);rw[zbf]at this;exact this r h
def Vm{x l}(h:Srt (x::l)):∀r,r∈H7 x (x::l)->bB r x=false:=by
 intro r H;unfold H7 at H;rw[List.dropWhile_cons_of_pos (p:=λr=>bB r x) (Re x)]at H;have h2:=zat.1 h;have hs:(l.dropWhile (λr=>bB r x)).Sublist l:=List.dropWhile_sublist _;have h3:=h2.2.sublist hs;cases a:l.dropWhile (λr=>bB r x)with
 | nil=>rw[a]at H;cases H
 | cons y t =>
  have hy:bB y x=false:=by
   have:=List.head?_dropWhile_not (λr=>bB r x) l;simp_all
  rw[a]at H h3;rcases zao.1 H with e|H
  .rw[e];exact hy
  .have k:=h2.1 y (hs.subset (by simp_all));have k2:=(zat.1 h3).1 r H;cases b:bB r x with
   | false=>rfl
   | true =>
    rw[L9]at k k2;rw[pQ]at b;have:¬bB y x=true:=by rw[hy];simp
    rw[pQ]at this;omega
def Om{S R α}[Inhabited α]{step} l(idx:S->Int)(F:S->LQ α->LX R)(I:S->LQ α->Prop)(hl:l.length<1000000000)
  (h0:∀s,I s []->idx s=l.length->∃r,step s=some (.inr r)/\F s []=some r)
  (h1:∀s a t,I s (a::t)->0<=idx s->idx s<l.length->nth l (idx s).toNat=a->idx s+1+t.length=l.length ->
   (∃r,step s=some (.inr r)/\F s (a::t)=some r)∨∃h,step s=some (.inl h)/\I h t/\idx h=idx s+1/\F h t=F s (a::t))
  {s} (hi:0<=idx s/\idx s<=l.length) (b:I s (l.drop (idx s).toNat)):loop step s=F s (l.drop (idx s).toNat):=by
 refine dM (λs=>F s (l.drop (idx s).toNat)) (λs=>(0<=idx s/\idx s<=(l.length))/\I s (l.drop (idx s).toNat)) (λs=>(l.length - idx s).toNat) (λs hs=>?_) ⟨hi,b⟩ (by omega);obtain⟨⟨b0,b1⟩,hs⟩:=hs;by_cases c:idx s<(l.length)
 .have d:=j7 (l:=l) (k:=(idx s).toNat) (by omega);rw[d]at hs ⊢;rcases h1 s _ _ hs b0 c rfl (by rw[zbc];omega)with⟨r,e,H⟩|⟨h,e,H,f,g⟩
  .simp_all
  .refine .inr ⟨h,e,⟨by omega,?_⟩,by omega,?_⟩
   .rw[f,show(idx s+1).toNat=(idx s).toNat+1 from by omega];exact H
   grind
 .have i:idx s=(l.length:Int):=by omega
  rw[zbs (by omega)]at hs ⊢;simp_all
def bG{S R α}[Inhabited α]{step} l(idx:S->Int)(F:S->LQ α->LX R)(I:S->LQ α->Prop)(hl:l.length<1000000000)
  (h0:∀s,I s []->idx s=l.length->∃r,step s=some (.inr r)/\F s []=some r)
  (h1:∀s a t,I s (a::t)->0<=idx s->idx s<l.length->nth l (idx s).toNat=a->idx s+1+t.length=l.length ->
   (∃r,step s=some (.inr r)/\F s (a::t)=some r)∨∃h,step s=some (.inl h)/\I h t/\idx h=idx s+1/\F h t=F s (a::t))
  {s} (hi:idx s=0) (H:I s l):loop step s=F s l:=by
 have:=Om l idx F I hl h0 h1 (s:=s) ⟨by omega,by omega⟩ (by rw[hi];exact H);rw[hi]at this;exact this
def Sm(r:aa):= r.a.length<=200/\r.b.length<=200
instance (r:aa):Decidable (Sm r):=by unfold Sm;infer_instance
def Md r(h:Sm r):fh r=some (cL r):=by
 unfold fh;unfold Sm at h;rw[yp r (by omega) (by omega)];rfl
def FQ{r}(h:cL r=0):Sm r:=by
 have g:=pP h;have ha:=nX g.a;unfold Sm;rcases g.b with h|h
 .have:=nX h;omega
 grind
theorem sm_wh{q}(h:Sm q)(u):Sm (Tt q u):=h
def noR:aa×Bool:=(⟨0,0,0,[],[],0,0,0,0,false,0,false⟩,false)
def Me:Option aa->aa×Bool
 | none=>noR
 | some w=>(w,true)
def okP(q p:aa):= p.part≠0/\cL p=0/\Comm p q
instance (q p:aa):Decidable (okP q p):=by unfold okP;infer_instance
def On{q u v}(h:cL (Tt q v)=0)(h0:0<=u)(h1:u<=v):cL (Tt q u)=0:=by
 unfold cL Tt at h ⊢;split at h;· cases h
 split at h;· cases h
 grind
def Oo{q}:∀{t},(∀p,p∈t->okP q p)->0<=CM t
 | [],_=>by simp[CM]
 | r::t,h=>by
  have:=Oo (λp H=>h p (zak _ H));have:=(pP (h r (zal ..)).2.1).aX;simp[CM];omega
def Zo(q:aa)(u:Int)(t:LQ aa):= if(t.all λp=>decide (okP q p))=true/\cL (Tt q (u+CM t))=0 then some (Tt q (u+CM t))else none
def Rf q(l):yt (q::l)=Zo q 0 (q::l):=by
 unfold yt Zo;rw[Int.zero_add];rfl
def Oq{q u r t}(h:okP q r):Zo q u (r::t)=Zo q (u+r.aX) t:=by
 unfold Zo;have e:u+CM (r::t)=u+r.aX+CM t:=by simp[CM];omega
 rw[e,List.all_cons,zds h,zei]
def Tw{q u r t}(h:¬okP q r):Zo q u (r::t)=none:=by
 unfold Zo;rw[List.all_cons,decide_eq_false h,zaa (by simp)]
def Zp{q u t}(h0:0<=u)(h:cL (Tt q u)≠0):Zo q u t=none:=by
 unfold Zo;rw[zaa];rintro⟨h1,h2⟩;have H:=Oo (q:=q) (λp H=>by have:=zbf.1 h1 p H;simp_all);exact h (On h2 h0 (by omega))
def Vn(p q):jy (bm.gn ⟨⟨p.source,p.call⟩,p.kind,p.a,p.b,p.cN,p.bz⟩) (bm.gn ⟨⟨q.source,q.call⟩,q.kind,q.a,q.b,q.cN,q.bz⟩)=decide (Comm p q):=by
 rw[zbt,zbo];simp[bm.gn,jy,V5,Comm]
def p_whole l(hs:∀r,r∈l->Sm r)(hl:l.length<=100000):kK l=some (Me (yt l)):=by
 cases l with
 | nil=>rfl
 | cons q l =>
  rw[Rf];unfold kK;have c:=hs q (zal ..);have e0:nth (q::l) (Int.toNat 0)=q:=rfl;rw[ae (by simp)];simp only[oO,zac];refine bG (q::l) (λs:Int×Int=>s.1) (λs t=>some (Me (Zo q s.2 t))) (λs t=>0<=s.2/\s.2<=1099511627776/\∀r,r∈t->Sm r) (by omega) ?_ ?_ rfl ⟨by decide,by decide,hs⟩
  .rintro⟨i,u⟩ ⟨h0,h1,h2⟩ hi;unfold lk lj;rw[zaa (by simp_all)];change ∃r,Option.map _ ((fh (Tt q u)).bind _)=_/\_;rw[Md _ (sm_wh c u)];simp only[zac,Zo,List.all_nil,CM,true_and,Int.add_zero];by_cases H:cL (Tt q u)=0
   .rw[zaa (by simp[H]),zab H];exact⟨_,rfl,rfl⟩
   .rw[zab (by simp_all),zaa H];exact⟨_,rfl,rfl⟩
  .rintro⟨i,u⟩ r t ⟨h0,h1,h2⟩ x y hn a;simp only at h0 h1 x y hn a ⊢;unfold lk;have d:=h2 r (zal ..);rw[zab (by simp_all),ae ⟨x,y⟩,hn,Md r d,e0];simp only[ir,cC,vi,zac];by_cases hk:r.part≠0/\cL r=0
   .have b1:(r.part==0)=false:=by simp_all
    have b2:(cL r != 0)=false:=by grind
    simp only[b1,b2,zfn,zea,zce,zfr];rw[ae (by simp),Vn];by_cases b:Comm r q
    .rw[ae (by omega)];have g:=(pP hk.2).aX;have z:okP q r:=⟨hk.1,hk.2,b⟩;by_cases j:r.aX > 1099511627776-u
     .rw[zab (by simp_all)];refine .inl ⟨_,rfl,?_⟩;rw[Oq z,Zp (by omega)]
      .rfl
      .intro H;have:=(pP H).aX;simp only[Tt]at this;omega
     .rw[zaa (by simp_all),ae (by omega),ae (by omega)];refine .inr ⟨_,rfl,⟨by omega,by omega,λp e=>h2 p (zak _ e)⟩,rfl,?_⟩;rw[Oq z]
    .rw[ae (by simp[b]),zab (by simp[b])];refine .inl ⟨_,rfl,?_⟩;rw[Tw (λh=>b h.2.2)];rfl
   .have f:((r.part==0) || ((if(!(r.part==0))=true then cL r else default) != 0))=true:=by
     grind
    simp only[f,zeq,Bool.true_or,zay,zbq];rw[ae (by simp),ae (by simp),zab trivial];refine .inl ⟨_,rfl,?_⟩;rw[Tw (λh=>hk ⟨h.1,h.2.1⟩)];rfl
def optR_if(b:Bool)(o):(if b then Me o else noR)=Me (if b then o else none):=by split<;>rfl
def H8 l(hs:∀r,r∈l->Sm r)(hl:l.length<=100000):iu l=some (Me (pR l)):=by
 unfold iu pR;rw[←optR_if];refine bG l (λs:Int=>s) (λs t=>some (if numB (s+1) t=true then Me (yt l)else noR)) (λs t=>True) (by omega) ?_ ?_ rfl trivial
 .intro i _ hi;unfold jq jo;rw[zaa (by simp_all),p_whole l hs hl];exact⟨_,rfl,rfl⟩
 .intro i r t _ x y hn a;unfold jq;rw[zab (by simp_all),ae ⟨x,y⟩,hn,ae (by omega),ae (λ_=>by omega)];have e:(i==(l.length:Int) - 1)=t.isEmpty:=by
   rw[zbt];cases t with
   | nil=>grind
   | cons=>grind
  rw[e];simp only[numB];by_cases h:r.part=i+1
  .by_cases H:r.last=t.isEmpty
   .rw[zaa (by simp_all),ae (by omega)];simp_all
   .rw[zab (by simp_all)];refine .inl ⟨_,rfl,?_⟩;simp[h,H];rfl
  .rw[zab (by simp[h])];refine .inl ⟨_,rfl,?_⟩;simp[h];rfl
def H9 last(x):∀(n i) l,(o9 last x n i l).length<=l.length
 | _,_,[]=>zag _
 | n,i,r::l=>by
  have h1:=H9 last x (n+1) (i+1) l;have h2:=H9 last x n (i+1) l;unfold o9
  grind
def chn_sm{last x n l}(h:∀r,r∈l->Sm r):(∀r,r∈(oq last x n l).1->Sm r)/\∀r,r∈(oq last x n l).2->Sm r:=by
 have H:=yr last x n l
 grind
def tQ{α}[Inhabited α]{l:LQ α}{k}(h:k<l.length):nth l k∈l:=by rw[cV h];simp_all
def gA{α}[Inhabited α]{a}{t:LQ α}{j}:nth (a::t) (j+1)=nth t j:=by simp[nth]
theorem gB{α}[Inhabited α]{a}{t:LQ α}:nth (a::t) 0=a:=by simp[nth]
def p_cmp(x y):fK x y=some (if x<y then -1 else if y<x then 1 else 0):=by
 unfold fK nw
 grind
def p_or l(hl:l.length<=100000):wu l=some ((l.find? λx=>x != 0).getD 0):=by
 refine bG l (λs:Int=>s) (λs t=>some ((t.find? (λx=>x != 0)).getD 0)) (λs t=>True) (by omega) ?_ ?_ rfl trivial
 .intro i _ hi;unfold qP;simp_all
 .intro i r t _ a y hn H;unfold qP;rw[zab (by simp_all),ae ⟨a,y⟩,hn];by_cases h:r=0
  .rw[ae (by omega)];simp_all
  simp_all
def Zq(a b):∃c,jT a b=some c/\(c<=0↔¬Lt b a):=by
 unfold jT;simp[p_cmp];rw[p_or _ (by simp)];refine⟨_,rfl,?_⟩;unfold Lt
 grind
def Bo(x:aa):aI:=⟨x.source,x.call⟩
def J5(r x):jy (aI.gn ⟨r.source,r.call⟩) (aI.gn (Bo x))=bB r x:=by
 rw[zbt,pQ];simp[aI.gn,Bo,jy,V5]
def uz(x:aa):Int->List aa->Int
 | _,[]=>-1
 | i,r::t=>if bB r x then i else uz x (i+1) t
def runN(x:aa):List aa->Nat
 | []=>0
 | r::t=>if bB r x then runN x t+1 else 0
def Zr l x(hl:l.length<=100000):qQ (Bo x) l=some (uz x 0 l):=by
 refine bG l (λs:Int=>s) (λs t=>some (uz x s t)) (λs t=>True) (by omega) ?_ ?_ rfl trivial
 .intro i _ hi;unfold nS;rw[zaa (by simp_all)];exact⟨_,rfl,rfl⟩
 .intro i r t _ a y hn H;unfold nS;rw[zab (by simp_all),ae ⟨a,y⟩,ae (by omega),hn];simp only[nR,cC,zac,J5];by_cases h:bB r x=true
  .rw[zab h];exact .inl ⟨_,rfl,by simp[uz,h]⟩
  .rw[zaa h,ae (by omega)];exact .inr ⟨_,rfl,trivial,rfl,by simp[uz,h]⟩
def Tx:∀x i t,uz x i t=-1∨i<=uz x i t/\uz x i t<i+t.length
 | x,i,[]=>.inl rfl
 | x,i,r::t=>by
  unfold uz;have:=Tx x (i+1) t
  grind
theorem p_spanG l x(hl:l.length<=100000):l7 (Bo x) l=some (if uz x 0 l<0 then(0,0)else(uz x 0 l,uz x 0 l+runN x (l.drop (uz x 0 l).toNat))):=by
 unfold l7;rw[Zr l x hl];have hi:=Tx x 0 l;simp;split
 .rfl
 .refine Om l (λs:Int=>s) (λs t=>some (uz x 0 l,s+(runN x t))) (λs t=>True) (by omega) ?_ ?_ (by omega) trivial
  .intro i _ hi;unfold mv;simp only[hi,Int.lt_irrefl];exact⟨_,rfl,by simp[runN]⟩
  .intro i r t _ a y hn H;unfold mv;rw[ae (λ_=>⟨a,y⟩),ae (λ_=>by omega),hn];simp only[fH,y,decide_true,zce,cC,zac,zei,J5];by_cases h:bB r x=true
   .rw[ae (by omega)];simp[runN]
    grind
   .rw[zaa h];simp[runN,h]
def fI(k:Int):Int->List aa->Option Int
 | _,[]=>none
 | i,r::t=>if r.part=k then some i else fI k (i+1) t
def Mf{k}:∀{i l j},fI k i l=some j->i<=j/\j<i+l.length/\(nth l (j-i).toNat).part=k
 | i,[],j,h=>by cases h
 | i,r::l,j,h=>by
  unfold fI at h;simp;split at h
  .rename_i hk;cases h;refine⟨by omega,by omega,?_⟩;rw[show(i-i).toNat=0 from by omega];exact hk
  .have H:=Mf h;rw[show(j-i).toNat=(j-(i+1)).toNat+1 from by omega,gA];omega
theorem E4 last x(n):∀{i l},Srt l->(∀r,r∈l->bB r x=true)->o9 last x n i l=match fI n i l with
  | none=>[]
  | some j=>j::if last=true/\(nth l (j-i).toNat).last=true then[]else o9 last x (n+1) i l
 | i,[],_,_=>rfl
 | i,r::l,h,c=>by
  have h2:=zat.1 h;have d:=c r (zal ..);have H:=λy hy=>c y (zak _ hy)
  by_cases a:r.part=n
  .have e:fI n i (r::l)=some i:=by unfold fI;rw[zab a]
   have b:o9 last x (n+1) i (r::l)=o9 last x (n+1) (i+1) l:=by
    conv=>lhs;unfold o9
    rw[zaa (by omega)]
   simp only[e,b];rw[show(i-i).toNat=0 from by omega,gB]
   conv=>lhs;unfold o9
   rw[zab ⟨d,a⟩];split<;>rfl
  .have e:fI n i (r::l)=fI n (i+1) l:=by conv=>lhs;unfold fI;rw[zaa a]
   have e0:o9 last x n i (r::l)=o9 last x n (i+1) l:=by
    conv=>lhs;unfold o9
    rw[zaa (λh=>a h.2)]
   rw[e0,e,E4 last x n h2.2 H];cases f:fI n (i+1) l with
   | none=>rfl
   | some j =>
    have g:=Mf f;have hm:nth l (j-(i+1)).toNat∈l:=tQ (by omega);have b:o9 last x (n+1) i (r::l)=o9 last x (n+1) (i+1) l:=by
     conv=>lhs;unfold o9
     rw[zaa (λh=>by
      have:=Le_part (h2.1 _ hm) (yq d (nY (H _ hm)));omega)]
    simp[b];rw[show(j-i).toNat=(j-(i+1)).toNat+1 from by omega,gA]
def Ty l x last(hl:l.length<=100000)(hs:Srt l)(c:∀r,r∈l->bB r x=true)(d:∀r,r∈l->r.part<=99):jU l last=some (o9 last x 1 0 l):=by
 refine bG l (λs:Int×LQ (Int×Int)=>s.1) (λs t=>some (o9 last x 1 0 l)) (λs t=>∀k,(ak s.2 k).or (fI k s.1 t)=fI k 0 l) (by omega) ?_ ?_ rfl (λk=>by rfl)
 .rintro⟨i,m⟩ h hi;have E:∀k,ak m k=fI k 0 l:=λk=>by rw[←h k];simp[fI]
  unfold ia hV;have:loop (λs:LQ Int×Int=>gZ l last m s.1 s.2) ([],1)=some (o9 last x 1 0 l):=by
   refine(dM (λs:LQ Int×Int=>some (s.1++o9 last x s.2 0 l)) (λs=>1<=s.2/\s.2<=100/\(s.1.length)<=s.2-1) (λs=>(100-s.2).toNat) ?_ ⟨by decide,by decide,by decide⟩ (by decide)).trans (by simp);rintro⟨out,k⟩ ⟨h0,h1,h2⟩;unfold gZ;rw[E k,E4 last x k hs c];cases e:fI k 0 l with
   | none =>
    rw[zab (by simp)];simp_all
   | some j =>
    have f:=Mf e;have hk:=d _ (tQ (l:=l) (k:=(j-0).toNat) (by omega));rw[zaa (by simp),ae (by grind)];simp only[zdr];rw[ae (λ_=>by omega),ae (λ_=>by omega),show(j-0).toNat=j.toNat from by omega];by_cases H:last=true/\(nth l j.toNat).last=true
    .rw[zab (by simp_all),zab H];simp_all
    .rw[zaa (by simp_all),zaa H,ae (by omega)]
     grind
  simp_all
 .rintro⟨i,m⟩ r t h b y hn a;simp only at h b y hn a ⊢;unfold ia;rw[zab (by simp_all),ae ⟨b,y⟩,ae (by omega),hn];cases ha:ak m r.part with
  | none =>
   rw[zab (by simp),ae (by omega)];refine .inr ⟨_,rfl,λk=>?_,rfl,by simp_all⟩;simp only;rw[eC,←h k];by_cases hk:r.part=k
   .rw[zab (by simp[hk])];subst hk;simp[ha,fI]
   .rw[zaa (by grind)];simp[fI,hk]
  | some j =>
   rw[zaa (by simp),ae (by omega)];refine .inr ⟨_,rfl,λk=>?_,rfl,by simp_all⟩;simp only;rw[←h k];by_cases hk:r.part=k
   .simp_all
   .simp[fI,hk]
def vq(h:List Int):Int->List aa->List aa
 | _,[]=>[]
 | i,r::t=>if i∈h then vq h (i+1) t else r::vq h (i+1) t
def Ia{a b}:∀{i l},(∀j,i<=j->(j∈a↔j∈b))->vq a i l=vq b i l
 | _,[],_=>rfl
 | i,r::l,h=>by
  have H:=Ia (i:=i+1) (l:=l) (λj c=>h j (by omega));unfold vq;simp_all
def Ot:∀i l,vq [] i l=l
 | _,[]=>rfl
 | i,r::l=>by unfold vq;rw[zaa (by simp),Ot]
def En:∀i (H:LQ Int) l,H.Pairwise (· < ·)->(∀a,a∈H->i<=a/\a<i+l.length)->rf i H l=(H.map λj=>nth l (j-i).toNat,vq H i l)
 | i,[],l,_,_=>by rw[vo,Ot];rfl
 | i,a::H,[],_,h=>by have:=h a (zal ..);grind
 | i,a::H,r::l,k,h=>by
  have h2:=zat.1 k;have ha:=h a (zal ..);unfold rf;by_cases e:a=i
  .subst e;rw[zab rfl,En (a+1) H l h2.2 (λb c=>by
    grind)]
   have d:(H.map λj=>nth (r::l) (j-a).toNat)=H.map λj=>nth l (j-(a+1)).toNat:=zeo (λb c=>by
    have h4:=h2.1 b c;rw[show(b-a).toNat=(b-(a+1)).toNat+1 from by omega,gA])
   have f:vq (a::H) a (r::l)=vq H (a+1) l:=by
    conv=>lhs;unfold vq
    rw[zab (zal ..)];exact Ia (λj m=>by grind)
   simp only[zbb,d,f];rw[show(a-a).toNat=0 from by omega,gB]
  .have g:∀b,b∈a::H->i+1<=b/\b<i+1+l.length:=λb c=>by
    have h3:=h b c
    grind
   rw[zaa e,En (i+1) (a::H) l k g];have d:((a::H).map λj=>nth (r::l) (j-i).toNat)=(a::H).map λj=>nth l (j-(i+1)).toNat:=zeo (λb c=>by
    have h4:=g b c;rw[show(b-i).toNat=(b-(i+1)).toNat+1 from by omega,gA])
   have f:vq (a::H) i (r::l)=r::vq (a::H) (i+1) l:=by
    conv=>lhs;unfold vq
    rw[zaa (λc=>by have:=g i c;omega)]
   rw[d,f]
def Tz l h(hl:l.length<=100000)(n:h.length<=100000)(p:h.Pairwise (· < ·))(d:∀a,a∈h->0<=a/\a<l.length):pJ l h=some (rf 0 h l):=by
 rw[En 0 h l p (λa ha=>by have:=d a ha;omega)];refine bG h (λs:LQ aa×Int×LQ (Int×Bool)=>s.2.1) (λs t=>some (h.map (λj=>nth l (j-0).toNat),vq h 0 l))
  (λs t=>(s.1.length)<=s.2.1/\s.1++t.map (λj=>nth l (j-0).toNat)=h.map (λj=>nth l (j-0).toNat)/\(∀j,((ak s.2.2 j).getD false=true∨j∈t)↔j∈h)/\(∀a,a∈t->0<=a/\a<l.length)) (by omega) ?_ ?_ (s:=(([]),(0),([]))) rfl ⟨by simp,rfl,λj=>by simp[Us],d⟩
 .rintro⟨out,i,m⟩ ⟨h1,h2,h3,h4⟩ hi;have hm:∀j,(ak m j).getD false=decide (j∈h):=λj=>by rw[zbt,zbo,←h3 j];simp
  unfold my mw;rw[zaa (by simp_all),←h2];have:loop (λs:LQ aa×Int=>iV l out m s.1 s.2) ([],0)=some (out,vq h 0 l):=by
   refine(bG l (λs:LQ aa×Int=>s.2) (λs t=>some (out,s.1++vq h s.2 t)) (λs t=>(s.1.length:Int)<=s.2) (by omega) ?_ ?_ rfl (by simp)).trans (by simp)
   .rintro⟨o,k⟩ e hk;simp only at e hk ⊢;unfold iV;rw[zaa (by simp_all)];exact⟨_,rfl,by simp[vq]⟩
   .rintro⟨o,k⟩ r t e c f hn H;simp only at e c f hn H ⊢;unfold iV;rw[zab (by simp_all),ae ⟨c,f⟩,ae (by omega),hn,hm k];by_cases g:k∈h
    .rw[zaa (by simp_all),ae (by omega)];refine .inr ⟨_,rfl,by grind,rfl,?_⟩;simp[vq,g]
    .rw[zab (by simp_all),ae (by grind),ae (by omega)];refine .inr ⟨_,rfl,by simp_all,rfl,?_⟩;simp[vq,g]
  rw[this];simp_all
 .rintro⟨out,i,m⟩ a t ⟨h1,h2,h3,h4⟩ x y hn H;simp only at h1 h2 h3 h4 x y hn H ⊢;have ha:=h4 a (zal ..);unfold my;rw[zab (by simp_all),ae ⟨x,y⟩,hn,ae ha,ae (by omega),ae (by grind),ae (by omega)];refine .inr ⟨_,rfl,⟨?_,?_,λj=>?_,λb d=>h4 b (zak _ d)⟩,rfl,by simp_all⟩
  .simp_all
  .simp_all
  .simp only;rw[eC,←h3 j]
   grind
def J6(x):∀i l,0<=i->(uz x i l=-1/\∀r,r∈l->bB r x=false)∨∃pre r t,l=pre++r::t/\(∀y,y∈pre->bB y x=false)/\bB r x=true/\uz x i l=i+pre.length
 | i,[],_=>.inl ⟨rfl,by simp⟩
 | i,r::l,h0=>by
  unfold uz;by_cases h:bB r x=true
  .rw[zab h];exact .inr ⟨[],r,l,rfl,by simp,h,by simp⟩
  .rcases J6 x (i+1) l (by omega)with⟨h1,h2⟩|⟨pre,y,t,h1,h2,h3,h4⟩
   .simp_all
   grind
def Ou(x):∀l,runN x l=(Mc x l).length
 | []=>rfl
 | r::l=>by
  have i:=Ou x l;unfold runN;unfold Mc at i ⊢;by_cases h:bB r x=true
  .rw[zab h,List.takeWhile_cons_of_pos (p:=λr=>bB r x) h,zap,i]
  simp_all
def Zs{x l}(hs:Srt l):(uz x 0 l<0/\∀r,r∈l->bB r x=false)∨∃pre run post,l=pre++(run++post)/\uz x 0 l=pre.length/\runN x (l.drop (uz x 0 l).toNat)=run.length/\0<run.length/\(∀r,r∈pre->bB r x=false)/\(∀r,r∈run->bB r x=true)/\∀r,r∈post->bB r x=false:=by
 rcases J6 x 0 l (zgh _)with⟨h1,h2⟩|⟨pre,r,t,h1,h2,h3,h4⟩
 .simp_all
 .right;have e:∀(l:LQ aa),Mc r l=Mc x l/\H7 r l=H7 x l:=λl=>by
   unfold Mc H7;have:(λy=>bB y r)=λy=>bB y x:=funext λy=>CJ h3
   simp_all
  have h:Srt (r::t):=by grind
  have H:l.drop (uz x 0 l).toNat=r::t:=by rw[h4,h1,show(0+(pre.length:Int)).toNat=pre.length from by omega,zfm]
  refine⟨pre,Mc x (r::t),H7 x (r::t),by rw[Zm];exact h1,by omega,by rw[H,Ou],?_,h2,Zn,λy hy=>?_⟩
  .unfold Mc;rw[List.takeWhile_cons_of_pos (p:=λr=>bB r x) h3];simp
  .rw[←CJ h3];rw[←(e (r::t)).2]at hy;exact Vm h y hy
def wF(x):∀(m H) now,now.length<m->now.length<H->fU m now x=fU H now x
 | 0,_,_,h,_=>by omega
 | _,0,_,_,h=>by omega
 | m+1,H+1,now,h,h'=>by
  unfold fU;cases a:pR (oq true x 1 now).1 with
  | none=>rfl
  | some w =>
   have hl:=CN (last:=true) (x:=x) (n:=1) (l:=now);have b:=zcn.2 (vk a);simp[wF x m H (oq true x 1 now).2 (by omega) (by omega)]
def J7(x):∀m h,(fU m h x).1.length+(fU m h x).2.length<=h.length
 | 0,h=>by simp[fU]
 | m+1,h=>by
  unfold fU;split
  .simp
  .rename_i w H;have hl:=CN (last:=true) (x:=x) (n:=1) (l:=h);have a:=zcn.2 (vk H);have i:=J7 x m (oq true x 1 h).2
   grind
structure Wt(l:LQ aa):Prop where
 MK:Srt l
 ok:∀r,r∈l->cL r=0
def Wt.sm{l}(h:Wt l):∀r,r∈l->Sm r:=λr H=>FQ (h.ok r H)
def Wt.le{l}(h:Wt l):∀r,r∈l->r.part<=99:=λr H=>(pP (h.ok r H)).part.2
def Wt.sub{l l'}(h:Wt l)(hs:l'.Sublist l):Wt l':=⟨h.MK.sublist hs,λr H=>h.ok r (hs.subset H)⟩
def Opn.wt{l}(h:Opn l):Wt l:=⟨h.MK,λr H=>(h.ok r H).1⟩
def Wt.ins{l}(h:Wt l){p}(a:cL p=0):Wt (oW l p):=⟨H0 h.MK,λr H=>by
 rcases CK.1 H with e|H
 .rw[e];exact a
 .exact h.ok r H⟩
def Ep(x):∀m n,(fU m n x).2.Sublist n
 | 0,n=>List.Sublist.refl _
 | m+1,n=>by
  unfold fU;split
  .simp_all
  .exact(Ep x m _).trans (CLq _ _ _ _)
def Wt.step{l}(h:Wt l){p}(H:cL p=0):Wt (jt l p).2:=by
 unfold jt;split
 .exact h
 .exact(h.ins H).sub (Ep _ _ _)
def J8 l(p):(jt l p).1.length+(jt l p).2.length<=l.length+1:=by
 unfold jt;split
 .grind
 .have:=J7 p (l.length+2) (oW l p);rw[HZ]at this;exact this
def Zt x(now out)(h:Wt now)(hl:now.length+out.length<=100000):mz (Bo x) now out=some ((fU (now.length+1) now x).2,out++(fU (now.length+1) now x).1):=by
 refine dM (λs:LQ aa×LQ aa=>some ((fU (s.1.length+1) s.1 x).2,s.2++(fU (s.1.length+1) s.1 x).1)) (λs=>Wt s.1/\s.1.length+s.2.length<=100000) (λs=>s.1.length) ?_ ⟨h,hl⟩ (by grind);rintro⟨l,o⟩ ⟨c,j⟩;simp only at c j ⊢;unfold oQ;rw[p_spanG l x (by omega)];rcases Zs (x:=x) c.MK with⟨h1,h2⟩|⟨pre,run,post,e,h1,h2,h3,h4,k,m⟩
 .rw[zab h1];simp only[zac];rw[ae (by omega),ae (by omega)];simp only[Int.toNat_zero,List.take_zero,List.drop_zero];rw[Ty [] x true (by simp) .nil (by simp) (by simp)];simp only[zac,o9];rw[Tz [] [] (by simp) (by simp) .nil (by simp)];simp only[zac,vo];rw[H8 [] (by simp) (by simp),H4];simp only[zac,Me,noR,zfn,zce];refine .inl ⟨_,rfl,?_⟩;have:fU (l.length+1) l x=([],l):=by
   unfold fU;rw[H2 true (λr d H=>by rw[h2 r d]at H;simp at H)];rfl
  rw[this,zbr]
 .have g:l.length=pre.length+(run.length+post.length):=by rw[e];simp
  rw[h2,h1,zaa (by omega)];simp only[zac];have f:run.Sublist l:=by
   rw[e];simp_all
  have M:(l.take ((pre.length:Int)+(run.length:Int)).toNat).drop ((pre.length:Int)).toNat=run:=by
   rw[e,show((pre.length:Int)+(run.length:Int)).toNat=pre.length+run.length from by omega,show((pre.length:Int)).toNat=pre.length from by omega,←zas,←zar,zgf,zfm]
  have b:=c.sub f;rw[ae (by omega),ae (by omega),M,Ty run x true (by omega) b.MK k b.le];have K:=H9 true x 1 0 run;simp only[zac];rw[Tz run _ (by omega) (by omega) (H6 _ _ _ _ _) (λa ha=>by have:=CQ true x 1 0 run a ha;omega),A9];have t:=CN (last:=true) (x:=x) (n:=1) (l:=run);simp only[zac];rw[H8 _ (chn_sm b.sm).1 (by omega)];simp only[zac];have G:oq true x 1 l=((oq true x 1 run).1,pre++((oq true x 1 run).2++post)):=by
   rw[e,Ts true (λr d H=>by rw[h4 r d]at H;simp at H),H3 true m]
  cases H:pR (oq true x 1 run).1 with
  | none =>
   simp only[Me,noR,zfn,zce];refine .inl ⟨_,rfl,?_⟩;have:fU (l.length+1) l x=([],l):=by
    unfold fU;rw[G,H]
   rw[this,zbr]
  | some w =>
   have u:0<(oq true x 1 run).1.length:=zcn.2 (vk H);simp only[Me,zeq,zay,zbq];unfold qJ;rw[ae ⟨by omega,by omega,by omega,by omega,by omega⟩];simp only[zac];rw[ae (by grind)];have p:l.take ((pre.length:Int)).toNat++(oq true x 1 run).2++l.drop ((pre.length:Int)+(run.length:Int)).toNat=(oq true x 1 l).2:=by
    rw[G]
    grind
   rw[p];have i:=CN (last:=true) (x:=x) (n:=1) (l:=l);rw[G]at i;simp only at i;have q:(oq true x 1 l).2.length<l.length:=by rw[G];grind
   refine .inr ⟨_,rfl,⟨c.sub (CLq _ _ _ _),by grind⟩,by omega,?_⟩;simp only;have:fU (l.length+1) l x=(w::(fU l.length (oq true x 1 l).2 x).1,(fU l.length (oq true x 1 l).2 x).2):=by
    conv=>lhs;unfold fU
    rw[show(oq true x 1 l).1=(oq true x 1 run).1 from by rw[G],H]
   rw[this,wF x ((oq true x 1 l).2.length+1) l.length _ (by omega) (by omega)];simp
def p_Join(now l)(h:Wt now)(hv:∀r,r∈l->cL r=0)(hl:now.length+l.length<=100000):l8 now l=some (fu now l):=by
 unfold l8 eH;rw[ae (by omega),zac];refine(bG l (λs:LQ aa×LQ aa×Int=>s.2.2) (λs t=>some (s.2.1++(fu s.1 t).1,(fu s.1 t).2)) (λs t=>Wt s.1/\(∀r,r∈t->cL r=0)/\s.1.length+s.2.1.length+t.length<=100000) (by omega) ?_ ?_ rfl ⟨h,hv,by omega⟩).trans (by simp)
 .rintro⟨w,o,i⟩ ⟨h1,h2,h3⟩ hi;unfold mA;rw[zaa (by simp_all)];exact⟨_,rfl,by simp[fu]⟩
 .rintro⟨w,o,i⟩ r t ⟨h1,h2,h3⟩ x g hn b;simp only at h1 h2 h3 x g hn b ⊢;simp only[zap]at h3;have j:=h2 r (zal ..);have ht:∀r,r∈t->cL r=0:=λy hy=>h2 y (zak _ hy)
  unfold mA;rw[zab (by simp_all),ae ⟨x,g⟩,hn];by_cases m:r.part=0
  .rw[zab (by simp_all),ae (by grind),ae (by omega)];refine .inr ⟨_,rfl,⟨h1,ht,by grind⟩,rfl,?_⟩;simp only[fu,jt,m,zce];simp
  .rw[zaa (by simp_all)];have es:jt w r=fU (w.length+2) (oW w r) r:=by unfold jt;rw[zaa m]
   have H:=h1.ins j;have B:=HZ w r;have key:loop (λs=>iX l w o i s) 0=some (.inl ((jt w r).2,o++(jt w r).1,i+1)):=by
    refine bG w (λs:Int=>s) (λs t=>(some (Sum.inl ((jt w r).2,o++(jt w r).1,i+1)):LX ((LQ aa×LQ aa×Int) ⊕ (LQ aa×LQ aa)))) (λs t=>t=w.drop s.toNat/\oW w r=w.take s.toNat++oW t r) (by omega) ?_ ?_ rfl ⟨rfl,by simp⟩
    .intro k ⟨_,hk⟩ q;unfold iX iW;rw[ae (λh=>by grind),ae (λh=>by grind)];have e0:decide (k<(w.length:Int))=false:=by grind
     simp only[e0,fH,zay,zbq,zac,Bool.false_and,hn];unfold oB;rw[ae ⟨by omega,by omega,by simp,by grind⟩];have e:w.take k.toNat++[r]++w.drop k.toNat=oW w r:=by
      rw[hk,zbs (by omega)];simp[oW]
     simp only[zac,cC,e];rw[show(⟨r.source,r.call⟩:aI)=Bo r from rfl,Zt r (oW w r) o H (by omega),wF r ((oW w r).length+1) (w.length+2) _ (by omega) (by omega),←es];simp only[zac];rw[ae (by omega)]
     grind
    .intro k y u ⟨d,hk⟩ f v a z;have n:w.drop (k.toNat+1)=u:=by
      rw[j7 (l:=w) (k:=k.toNat) (by omega)]at d;simp_all
     unfold iX iW;rw[ae (λ_=>⟨f,v⟩),ae (λ_=>by omega)];obtain⟨c,A,C⟩:=Zq y r;have e0:decide (k<(w.length:Int))=true:=by grind
     simp only[e0,fH,zce,a,hn,A,zac,zei];by_cases p:Lt r y
     .rw[zaa (by simp_all)];unfold oB;rw[ae ⟨by omega,by omega,by simp,by grind⟩];have e:w.take k.toNat++[r]++w.drop k.toNat=oW w r:=by
       rw[hk,j7 (l:=w) (k:=k.toNat) (by omega),a];rw[n];unfold oW;rw[zab p];simp
      simp only[zac,cC,e];rw[show(⟨r.source,r.call⟩:aI)=Bo r from rfl,Zt r (oW w r) o H (by omega),wF r ((oW w r).length+1) (w.length+2) _ (by omega) (by omega),←es];simp only[zac];rw[ae (by omega)];simp_all
     .rw[zab (by simp_all),ae (by omega)];refine .inr ⟨_,rfl,⟨by rw[show(k+1).toNat=k.toNat+1 from by omega,n],?_⟩,rfl,by simp_all⟩;rw[hk,show(k+1).toNat=k.toNat+1 from by omega,BC (by omega),a]
      conv=>lhs;unfold oW
      rw[zaa p];simp
   rw[key];have M:=J8 w r;refine .inr ⟨_,rfl,⟨h1.step j,ht,by grind⟩,rfl,?_⟩;simp only[fu];simp
def qD(s:Int):Int->List Head->Int
 | k,[]=>k
 | k,h::t=>qD s (if h.source=s then h.number+1 else k) t
def OkN(h:Head):= -9223372036854775808<=h.number/\h.number<=9223372036854775806
def Vo(h:Head):= (1<=h.source/\h.source<=99)/\(1<=h.number/\h.number<=999999999)/\(1<=h.format/\h.format<=3)/\0<=h.count/\h.count<=4096
instance (h:Head):Decidable (Vo h):=by unfold Vo;infer_instance
def hdB:List Head->List Head->Bool
 | _,[]=>true
 | d,h::t=>decide (Vo h/\h.number=qD h.source 1 d) && hdB (d++[h]) t
def TA{h}(o:Vo h):OkN h:=by unfold Vo at o;unfold OkN;omega
def Mg:∀{d l},hdB d l=true->∀h,h∈l->Vo h
 | _,[],_,h,H=>by cases H
 | d,x::l,a,h,H=>by
  simp only[hdB,zam,zcc]at a;rcases zao.1 H with rfl|H
  .grind
  .exact Mg a.2 h H
def zB(r:Range):= (1<=r.source/\r.source<=99)/\1<=r.from_/\r.from_<=r.uW/\r.uW<=999999999
instance (r:Range):Decidable (zB r):=by unfold zB;infer_instance
def Ib(p r:Range):= p.source<r.source∨p.source=r.source/\p.uW+1<r.from_
instance (p r:Range):Decidable (Ib p r):=by unfold Ib;infer_instance
structure Can(l:LQ Range):Prop where
 ok:∀r,r∈l->zB r
 MK:l.Pairwise Ib
def J9(s n:Int):(decide (s>=1) && decide (s<=99) && decide (n>=1) && decide (n<=999999999))=decide ((1<=s/\s<=99)/\1<=n/\n<=999999999):=by
 rw[zbt,zbo];grind
def hasB(l:LQ Range)(s n:Int):= l.any λr=>decide (r.source=s/\r.from_<=n/\n<=r.uW)
def Zu(s n:Int):= decide ((1<=s/\s<=99)/\1<=n/\n<=999999999)
def zC(s:Int):List Range->Int
 | []=>0
 | r::t=>(if r.source=s then r.uW-r.from_+1 else 0)+zC s t
def Ov(s:Int):List Head->Int
 | []=>0
 | h::t=>(if h.source=s then h.count else 0)+Ov s t
def ctB(l:List Range)(hs:List Head)
 | 0,_=>true
 | m+1,s=>decide (zC s l<=Ov s hs) && ctB l hs m (s+1)
def Rg(a b:aa):= decide (a.source=b.source) && decide (a.aJ=b.aJ)
def opB(l:List Range):List aa->List aa->Bool
 | _,[]=>true
 | d,r::t=>hasB l r.source r.aJ && Zu r.source r.aJ && !(d.any λx=>Rg x r) && opB l (d++[r]) t
structure SmI(v:dH):Prop where
 seen:v.seen.length<=100000
 aZ:v.aZ.length<=100000
 opens:v.open_.length<=100000
 sm:∀r,r∈v.open_->Sm r
structure yu(v:dH):Prop where
 aZ:hdB [] v.aZ=true
 can:Can v.seen
 opn:Opn v.open_
 Bz:ctB v.seen v.aZ 99 1=true
 ids:opB v.seen [] v.open_=true
def Ba(s):∀k l h,qD s k (l++[h])=if h.source=s then h.number+1 else qD s k l
 | k,[],h=>by simp only[zcs,qD]
 | k,x::l,h=>by simp only[List.cons_append,qD];exact Ba s _ l h
def Zv v s(hl:v.aZ.length<=10000000)(z:∀h,h∈v.aZ->OkN h):mS v s=some (if 1<=s/\s<=99 then qD s 1 v.aZ else 0):=by
 unfold mS;by_cases hs:1<=s/\s<=99
 .rw[zaa (by grind),zab hs,ae (by omega)];refine(dM (λi:Int=>some (qD s 1 (v.aZ.take (i+1).toNat))) (λi=>-1<=i/\i<(v.aZ.length:Int)) (λi=>(i+1).toNat) ?_ (s:=(v.aZ.length:Int) - 1) (by omega) (by omega)).trans ?_
  .rintro i ⟨h1,h2⟩;unfold u6;by_cases h0:i>=0
   .have a:nth v.aZ i.toNat∈v.aZ:=tQ (by omega);have b:=z _ a;unfold OkN at b;rw[zab (by simp_all),ae (by omega),show(i+1).toNat=i.toNat+1 from by omega,BC (by omega),Ba];by_cases H:(nth v.aZ i.toNat).source=s
    .rw[zab (by simp_all),ae (by omega),ae (by omega),zab H];simp_all
    .rw[zaa (by simp_all),ae (by omega),zaa H]
     grind
   .rw[zaa (by simp_all)];have:i=-1:=by omega
    subst this;exact .inl ⟨_,rfl,rfl⟩
  simp_all
 grind
def aa.eq_iff(a b:aa):jy a.gn b.gn=true↔a=b:=by cases a;cases b;simp[aa.gn,jy,V5]
def Ka(s):∀l h,Ov s (l++[h])=Ov s l+if h.source=s then h.count else 0
 | [],h=>by simp[Ov]
 | x::l,h=>by simp only[List.cons_append,Ov,Ka s l h];omega
def half{i j}(h0:0<=i)(h1:i<=100000000)(h2:0<=j)(h3:j<=100000000):IntKind.wrap .i64 (Int.fdiv (IntKind.wrap .u64 (i+j)) (2 ^ min (Int.toNat 1) 64))=(i+j) / 2:=by
 have e:IntKind.wrap .u64 (i+j)=i+j:=by
  have:IntKind.wrap .u64 (i+j)=(i+j) % 18446744073709551616:=rfl;rw[this];omega
 have h:Int.fdiv (i+j) (2 ^ (min (Int.toNat (1)) 64))=(i+j) / 2:=by
  rw[zfd _ (by decide)];rfl
 rw[e,h];exact IS (by omega) (by omega)
def PL(s n:Int)(r:Range):= r.source > s∨r.source=s/\r.uW>=n
instance (s n:Int)(r:Range):Decidable (PL s n r):=by unfold PL;infer_instance
def FR{s n a b}(h:Ib a b)(H:zB b)(c:PL s n a):PL s n b:=by
 unfold PL Ib zB at *;omega
def CS(s n:Int)(l:LQ Range):= (l.takeWhile λr=>!decide (PL s n r)).length
def Zw(s n)(l):CS s n l<=l.length:=(List.takeWhile_sublist _).length_le
def yv(s n) r(l):CS s n (r::l)=if PL s n r then 0 else CS s n l+1:=by
 unfold CS;rw[List.takeWhile_cons];by_cases h:PL s n r<;>simp[h]
def Ow(s n):∀{l k},k<=l.length->(∀j,j<k->¬PL s n (nth l j))->(k<l.length->PL s n (nth l k))->CS s n l=k
 | [],k,hk,_,_=>by simp at hk;subst hk;rfl
 | r::l,0,_,_,h=>by
  rw[yv,zab];have:=h (by simp)
  rwa [gB]at this
 | r::l,k+1,hk,h1,h2=>by
  have:=h1 0 (by omega);rw[gB]at this;rw[yv,zaa this,Ow s n (k:=k) (by simp_all) (λj H=>by
   have:=h1 (j+1) (by omega)
   rwa [gA]at this) (λhk=>by
   have:=h2 (by simp_all)
   rwa [gA]at this)]
def Can.mono{l}(h:Can l){s n i j}(R:i<=j)(H:j<l.length)(a:PL s n (nth l i)):PL s n (nth l j):=by
 by_cases e:i=j
 .simp_all
 .have:=List.pairwise_iff_getElem.1 h.MK i j (by omega) H (by omega);rw[←cV,←cV]at this;exact FR this (h.ok _ (tQ H)) a
def Ic l(s n)(f:Can l)(hl:l.length<=10000000):mT l.length l s n=some (CS s n l:Int):=by
 unfold mT;obtain⟨r,h1,h2⟩:=rR (step:=λst:Int×Int=>jn l s n st.1 st.2) (λr=>r=(CS s n l:Int)) (λst:Int×Int=>0<=st.1/\st.1<=st.2/\st.2<=(l.length:Int)/\(∀k:Nat,(k:Int)<st.1->¬PL s n (nth l k))/\(st.2<(l.length:Int)->PL s n (nth l st.2.toNat))) (λst=>(st.2-st.1).toNat) (by
  rintro⟨i,j⟩ ⟨a0,g,c,d,a⟩;simp only at a0 g c d a ⊢;unfold jn nv;by_cases h:i<j
  .rw[zab (by grind),ae (by omega),ae (by omega),half a0 (by omega) (by omega) (by omega),ae (by omega)];simp only[zac];have e:((decide ((nth l ((i+j) / 2).toNat).source > s)) || ((((nth l ((i+j) / 2).toNat).source)==s) && (decide (((nth l ((i+j) / 2).toNat).uW)>=n))))=decide (PL s n (nth l ((i+j) / 2).toNat)):=by
    rw[zbt];unfold PL;simp
   rw[e];by_cases H:PL s n (nth l ((i+j) / 2).toNat)
   .rw[zaa (by simp[H])]
    grind
   .rw[zab (by simp[H]),ae (by omega)];refine .inr ⟨_,rfl,⟨by omega,by omega,c,λk hk b=>H (f.mono (i:=k) (by omega) (by omega) b),a⟩,by omega⟩
  .rw[zaa (by grind)];refine .inl ⟨_,rfl,?_⟩;have e:j=i:=by omega
   subst e;have:=Ow s n (l:=l) (k:=j.toNat) (by omega) (λk hk=>d k (by omega)) (λhk=>a (by omega));omega) (s:=((0:Int),(l.length:Int))) ⟨by simp,by simp,by simp,λk hk=>by omega,λh=>by simp at h⟩ (by omega)
 rw[h1,h2]
def has_plN{l}(b:Can l)(s n):hasB l s n=(decide (CS s n l<l.length) && (decide ((nth l (CS s n l)).source=s) && decide ((nth l (CS s n l)).from_<=n))):=by
 induction l with
 | nil=>rfl
 | cons r l i =>
  have hs:=zat.1 b.MK;have c:Can l:=⟨λx hx=>b.ok x (zak _ hx),hs.2⟩;rw[yv];by_cases a:PL s n r
  .rw[zab a,gB];have e:=b.ok r (zal ..);unfold hasB;rw[zdz];by_cases d:r.source=s/\r.from_<=n
   .have:n<=r.uW:=by unfold PL at a;omega
    simp_all
   .have h1:decide (r.source=s/\r.from_<=n/\n<=r.uW)=false:=decide_eq_false (λh=>d ⟨h.1,h.2.1⟩);have h2:(l.any λr=>decide (r.source=s/\r.from_<=n/\n<=r.uW))=false:=by
     rw[zew];intro x hx H;have H:=zbk H;have h3:=hs.1 x hx;unfold PL Ib zB at *;omega
    rw[h1,h2,zea];have:(decide (r.source=s) && decide (r.from_<=n))=false:=by
     rw[←Bool.decide_and];simp_all
    rw[this,Bool.and_false]
  .rw[zaa a,gA];have:hasB (r::l) s n=hasB l s n:=by
    unfold hasB;rw[zdz,decide_eq_false (by unfold PL at a;omega),zfr]
   rw[this,i c];simp
def p_Has l(s n)(H:Can l)(hl:l.length<=10000000):xQ l s n=some (hasB l s n && Zu s n):=by
 unfold xQ uh;rw[Ic l s n H hl];have a:=Zw s n l;simp only[zac,fg,J9];rw[ae (λh=>by simp_all),ae (λh=>by simp_all),has_plN H];congr 1;unfold Zu;rw[show((CS s n l:Nat):Int).toNat=CS s n l from by omega];have e:decide (((CS s n l:Nat):Int)<(l.length:Int))=decide (CS s n l<l.length):=by
  rw[zbt,zbo,zbo];omega
 rw[e]
 grind
def opn_nil:Opn []:=⟨List.Pairwise.nil,by simp,λx=>by simp[oq,H4]⟩
instance:DecidableEq aa:=λa b=>decidable_of_iff _ (aa.eq_iff a b)
def FU l(hs):∀m s,ctB l hs m s=true↔∀k:Int,s<=k->k<s+m->zC k l<=Ov k hs
 | 0,s=>by simp only[ctB,true_iff];omega
 | m+1,s=>by
  rw[ctB,zam,zbo,FU l hs m (s+1)]
  grind
def TL(s n:Int)(r:Range):= r.source=s/\r.uW+1=n
def TR(s n:Int)(r:Range):= r.source=s/\r.from_-1=n
instance (s n:Int)(r:Range):Decidable (TL s n r):=by unfold TL;infer_instance
instance (s n:Int)(r:Range):Decidable (TR s n r):=by unfold TR;infer_instance
def rJ(s n f:Int):List Range->List Range
 | []=>[⟨s,f,n⟩]
 | r::l=>if TR s n r then⟨s,f,r.uW⟩::l else⟨s,f,n⟩::r::l
def kv(s n:Int):List Range->List Range
 | []=>[⟨s,n,n⟩]
 | r::l=>if PL s n r then rJ s n n (r::l)else if TL s n r then rJ s n r.from_ l else r::kv s n l
def Can.tail{r l}(h:Can (r::l)):Can l:=⟨λx hx=>h.ok x (zak _ hx),(zat.1 h.MK).2⟩
def CT{r l s n}(h:hasB (r::l) s n=false):hasB l s n=false:=by
 unfold hasB at *;rw[zdz,zgb]at h;exact h.2
def Rh{α}[Inhabited α]{A B}{x:α}{p}(h:A.length=p):nth (A++x::B) p=x:=by
 subst h;rw[cV (by simp)];simp
def TB{α}[Inhabited α]{A B}{x b:α}{p}(h:A.length=p):nth (A++x::b::B) (p+1)=b:=by
 have:=Rh (A:=A++[x]) (B:=B) (x:=b) (p:=p+1) (by simp[h])
 rwa [zas]at this
def TC{α:Type}{A B}{x y:α}{p}(h:A.length=p):(A++x::B).set p y=A++y::B:=by
 subst h;simp
theorem TD{α:Type}{A B}{x b:α}{p}(h:A.length=p):(A++x::b::B).take (p+1)++(A++x::b::B).drop (p+2)=A++x::B:=by
 subst h;have e:(A++x::b::B).take (A.length+1)=A++[x]:=by
  rw[show A++x::b::B=(A++[x])++b::B from by simp,zeb (by simp),zbj (by simp)]
 have H:(A++x::b::B).drop (A.length+2)=B:=by
  rw[show A++x::b::B=(A++[x,b])++B from by simp,show A.length+2=(A++[x,b]).length from by simp,zfm]
 rw[e];simp
def wG:List Range->Range->List Range->List Range
 | [],x,B=>x::B
 | [a],x,B=>if a.source=x.source/\a.uW+1=x.from_ then⟨a.source,a.from_,x.uW⟩::B else a::x::B
 | a::b::A,x,B=>a::wG (b::A) x B
def Kb x B(a):∀A,wG (A++[a]) x B=if a.source=x.source/\a.uW+1=x.from_ then A++⟨a.source,a.from_,x.uW⟩::B else A++a::x::B
 | []=>by simp[wG]
 | [c]=>by simp[wG];split<;>simp
 | c::d::A=>by
  have:=Kb x B a (d::A);simp at this ⊢;rw[wG,this];split<;>simp
def Ri(A B) x p(c:A.length=p)(hl:A.length+B.length<=50000000)(d:∀a,a∈A->zB a):iq p (A++x::B)=some (wG A x B):=by
 unfold iq;rcases List.eq_nil_or_concat A with rfl|⟨H,a,rfl⟩
 .simp at c;have:p=0:=by omega
  subst this;simp[fH,wG,ck]
 .rw[List.concat_eq_append]at *;have ha:=d a (by simp);unfold zB at ha;simp only[zar,zap,zdu]at c hl;have b:p > 0:=by omega
  have f:(p-1).toNat=H.length:=by omega
  have e:p.toNat=H.length+1:=by omega
  have g:(p+1).toNat=H.length+2:=by omega
  rw[zas,zeh];simp only[b,decide_true,fH,zce];rw[ae (λ_=>by omega),ae (λ_=>by grind),ae (λ_=>by grind),ae (λ_=>by grind),ae (λ_=>by grind),f,e,Rh rfl,TB rfl];unfold mU;rw[ae (λ_=>by omega)];simp only[zac,zei];rw[Kb];by_cases h:a.source=x.source/\a.uW+1=x.from_
  .rw[zab (by simp_all),zab h,ae (by omega),ae (by grind),ae (by simp),ae (by grind),ae (by simp),ae (by omega),TC rfl];unfold mO;rw[ae (by grind),e,g,TD rfl];rfl
  grind
def Ox(s n:Int)(A:List Range):List Range->List Range
 | []=>wG A ⟨s,n,n⟩ []
 | b::B=>if TR s n b then wG A ⟨s,n,b.uW⟩ B else wG A ⟨s,n,n⟩ (b::B)
def Zx{s n A B}(h:∀a,a∈A->¬PL s n a)(d:∀b,b∈B->PL s n b)(hs:A.Pairwise Ib)(hk:∀a,a∈A->zB a):kv s n (A++B)=Ox s n A B:=by
 induction A with
 | nil =>
  cases B with
  | nil=>rfl
  | cons b H =>
   rw[zcs,kv,zab (d b (zal ..)),rJ];simp[Ox];split<;>rfl
 | cons a A i =>
  have h1:=h a (zal ..);have i:=i (λx hx=>h x (zak _ hx)) (zat.1 hs).2 (λx hx=>hk x (zak _ hx));rw[List.cons_append,kv,zaa h1];cases A with
  | nil =>
   rw[zcs];by_cases h2:TL s n a
   .rw[zab h2];have I:=h2;cases B with
    | nil=>simp[rJ,Ox,wG,I.1,I.2]
    | cons b H =>
     simp[rJ,Ox,wG];split<;>simp[I.1,I.2]
   .rw[zaa h2];have I:¬(a.source=s/\a.uW+1=n):=h2;cases B with
    | nil=>simp[kv,Ox,wG,I]
    | cons b H =>
     rw[kv,zab (d b (zal ..))];simp[rJ,Ox,wG];split<;>simp
  | cons c f =>
   have h3:=(zat.1 hs).1 c (zal ..);have h4:=h c (by simp);have e:=hk c (by simp);rw[zaa (by unfold TL;unfold Ib at h3;unfold PL at h4;unfold zB at e;omega),i];cases B with
   | nil=>simp only[Ox,wG]
   | cons b H =>
    simp only[Ox];split<;>simp only[wG]
def Oy(s n):∀(l:LQ Range),∀a,a∈l.take (CS s n l)->¬PL s n a
 | [],a,h=>by simp at h
 | r::l,a,h=>by
  rw[yv]at h;by_cases H:PL s n r
  .rw[zab H]at h;simp at h
  .rw[zaa H]at h;rcases zao.1 h with rfl|h
   .exact H
   .exact Oy s n l a h
def Oz{s n}:∀{l},Can l->∀b,b∈l.drop (CS s n l)->PL s n b
 | [],_,b,h=>by simp at h
 | r::l,a,b,h=>by
  rw[yv]at h;by_cases H:PL s n r
  .rw[zab H]at h;rcases zao.1 h with rfl|h
   .exact H
   .exact FR ((zat.1 a.MK).1 b h) (a.ok b (zak _ h)) H
  .rw[zaa H]at h;exact Oz a.tail b h
def TE l(s n)(H:Can l)(hl:l.length<=10000000):iI s n l=some (CS s n l:Int):=by
 unfold iI;have e:∀i j,mu s n l i j=jn l s n i j:=λi j=>by
  unfold mu jn;have:∀k,jS k s n l=nv k l s n:=λk=>by
   unfold jS nv;by_cases h:(0)<=k/\k<(l.length)
   .rw[ae h,ae h,ae (by omega)]
   .unfold ck;rw[zaa h,zaa h]
  simp_all
 have:lY l.length s n l=mT l.length l s n:=by
  unfold lY mT
  grind
 rw[this,Ic l s n H hl];rfl
def p_gHas l(s n)(H:Can l)(hl:l.length<=10000000):tI s n l=some (hasB l s n && Zu s n):=by
 have a:=TE l s n H hl;have:=p_Has l s n H hl;unfold xQ uh at this;rw[Ic l s n H hl]at this;unfold tI;rw[a];simp only[zac,fg]at this ⊢;rw[ae (λh=>by simp_all),ae (λh=>by simp_all)]at this;rw[ae (λh=>by simp_all),ae (λh=>by simp_all),ae (λh=>by simp_all),ae (λh=>by simp_all)];exact this
def Vp A(s n)(p:Nat)(H:iI s n (A++[])=some (p:Int))(W:A.length=p)(hl:A.length<=10000000)(h:∀a,a∈A->zB a):gN s n (A++[])=some (wG A ⟨s,n,n⟩ []):=by
 unfold gN;rw[H,zac];unfold pZ;rw[zbr,ae ⟨by omega,by omega,by simp,by grind⟩,zac,zbj (by omega),zbs (by omega),zbr];have b:decide ((p)+1<((A++[(⟨s,n,n⟩:Range)]).length:Int))=false:=by
  rw[zdn,zar,zcm];omega
 simp only[b];rw[ae (by omega)];exact Ri A [] _ _ (by omega) (by rw[zdu];omega) h
def Rj(A B) b(s n)(p:Nat)(f:iI s n (A++b::B)=some (p:Int))(W:A.length=p)(hl:A.length+B.length<=10000000)(c:∀a,a∈A->zB a)(i:zB b)(hn:0<=n/\n<=999999999):gN s n (A++b::B)=some (if TR s n b then wG A ⟨s,n,b.uW⟩ B else wG A ⟨s,n,n⟩ (b::B)):=by
 unfold gN;rw[f,zac];unfold pZ;have e:((p:Int)+1).toNat=p+1:=by omega
 have g:((p:Int)+2).toNat=p+2:=by omega
 have d:(A++b::B).length=p+(B.length+1):=by rw[zar,zap,W]
 rw[ae ⟨by omega,by omega,by simp,by rw[d,zcm];omega⟩,zac,show((p:Nat):Int).toNat=p from by omega,zeb (by omega),zbj (by omega),show List.drop p (A++b::B)=b::B from by rw[←W,zfm],zas,zeh];have t:(A++(⟨s,n,n⟩:Range)::b::B).length=p+(B.length+2):=by rw[zar,zap,zap,W]
 have ht:decide ((p:Int)+1<((A++(⟨s,n,n⟩:Range)::b::B).length:Int))=true:=by rw[zbo,t];omega
 simp only[ht];rw[ae (by omega),ae (λ_=>by rw[t];omega),ae (λ_=>by rw[t];omega),ae (λ_=>by omega),ae (λ_=>by rw[t];omega),ae (λ_=>by rw[t];omega),e,Rh W,TB W];unfold mU;rw[ae (λ_=>by grind)];simp only[fH,zce,zac,zei];by_cases h:TR s n b
 .have h':=h;unfold TR at h';rw[zab (by grind),zab h,ae (by omega),ae (by rw[t];omega),ae (by rw[t];omega),ae (by rw[t];omega),ae (by rw[t];omega),ae (by omega),ae (by omega),TC W];unfold mO;have H:(A++(⟨s,n,b.uW⟩:Range)::b::B).length=p+(B.length+2):=by rw[zar,zap,zap,W]
  rw[ae (by rw[H];omega),e,g,TD W];simp only[zac];exact Ri A B _ _ (by omega) (by omega) c
 .have h':=h;unfold TR at h';rw[zaa (by grind),zaa h];exact Ri A (b::B) _ _ (by omega) (by rw[zap];omega) c
def Zy l(s n)(H:Can l)(hn:0<=n/\n<=999999999)(hl:l.length<=10000000):gN s n l=some (kv s n l):=by
 have g:=TE l s n H hl;have hle:=Zw s n l;have i:=Oy s n l;have j:=Oz (s:=s) (n:=n) H;have W:(l.take (CS s n l)).length=CS s n l:=by rw[zaw];omega
 have c:(l.drop (CS s n l)).length=l.length-CS s n l:=by rw[zbc]
 have h:∀a,a∈l.take (CS s n l)->zB a:=λa ha=>H.ok a (zco ha)
 have f:∀b,b∈l.drop (CS s n l)->zB b:=λb k=>H.ok b (zca k)
 have key:=Zx i j (H.MK.sublist (List.take_sublist _ _)) h;have e:=zcz (CS s n l) l;cases d:l.drop (CS s n l)with
 | nil =>
  rw[d]at key e;have:=Vp (l.take (CS s n l)) s n (CS s n l) (by rw[e];exact g) W (by omega) h;rw[e]at this key;rw[this,key];rfl
 | cons b B =>
  rw[d]at key e c;rw[zap]at c;have:=Rj (l.take (CS s n l)) B b s n (CS s n l) (by rw[e];exact g) W (by omega) h (f b (by simp_all)) hn;rw[e]at this key;rw[this,key];rfl
def Mh(src:Int):List aa->Int
 | []=>0
 | r::l=>if cL r=0 then if r.source=src then Mh src l else 8 else cL r
def Ie(s n f:Int):Int:=if(s<1∨99<s)∨n<1∨999999999<n then 6 else if f<1∨3<f then 7 else 0
def Er(b:Batch):= if Ie b.source b.number b.format=0 then if 4096<b.records.length then 5 else Mh b.source b.records else Ie b.source b.number b.format
def SmL(l:LQ aa):= ∀r,r∈l->r.a.length<1000000000/\r.b.length<1000000000
theorem SmL.nth{l}(h:SmL l){k}(hk:k<l.length):(Go.Abs.nth l k).a.length<1000000000/\(Go.Abs.nth l k).b.length<1000000000:=by
 rw[cV hk];exact h _ (zft hk)
def Zz b(h:SmL b.records)(hl:b.records.length<=4096):loop (λs=>jm b s) 0=some (Mh b.source b.records):=by
 have:=dM (λi:Int=>some (Mh b.source (b.records.drop i.toNat))) (λi=>0<=i/\i<=(b.records.length)) (λi=>(b.records.length - i).toNat) (λi H=>by
  obtain⟨h0,h1⟩:=H;show(∃r,jm b i=_/\_)∨∃c,jm b i=_/\_;unfold jm;by_cases hi:i<(b.records.length)
  .have a:=j7 (l:=b.records) (k:=i.toNat) (by omega);have hs:=h.nth (k:=i.toNat) (by omega);rw[zab (by simp_all),ae ⟨h0,hi⟩,yp _ hs.1 hs.2,a];generalize Go.Abs.nth b.records i.toNat=r at *;simp only[zac,Mh];by_cases d:cL r=0
   .by_cases G:r.source=b.source
    .rw[ae (by omega)]
     grind
    simp_all
   simp_all
  .rw[zaa (by simp_all),zbs (by omega)];exact .inl ⟨_,rfl,rfl⟩) (s:=0) ⟨by omega,by omega⟩ (by omega)
 simp_all
def Rk(h):eN h=some (if Ie h.source h.number h.format=0 then if h.count<0∨4096<h.count then 5 else 0 else Ie h.source h.number h.format):=by
 unfold eN;simp only[er,zac,vi];by_cases h1:(h.source<1∨99<h.source)∨(h.number<1∨999999999<h.number)
 .have e:Ie h.source h.number h.format=6:=zab h1;simp_all
 .by_cases h2:h.format<1∨3<h.format
  .have e:Ie h.source h.number h.format=7:=by unfold Ie;rw[zaa h1,zab h2]
   simp_all
  .have e:Ie h.source h.number h.format=0:=by unfold Ie;rw[zaa h1,zaa h2]
   grind
def p_bChk b(h:SmL b.records):ql b=some (Er b):=by
 unfold ql sK Er;simp[Rk];by_cases h1:Ie b.source b.number b.format=0
 .simp only[h1];by_cases h2:4096<b.records.length
  .have I:(b.records.length:Int)<0∨4096<(b.records.length:Int):=by omega
   rw[zab I,zab h2];rfl
  .have I:¬((b.records.length:Int)<0∨4096<(b.records.length:Int)):=by omega
   rw[zaa I,zaa h2];exact Zz b h (by omega)
 simp_all
def TF{s}:∀{l},Mh s l=0->∀r,r∈l->cL r=0
 | [],_,r,h=>by cases h
 | x::l,H,r,h=>by
  rw[Mh]at H;by_cases a:cL x=0
  .rw[zab a]at H;by_cases hs:x.source=s
   .rw[zab hs]at H;rcases zao.1 h with rfl|h
    .exact a
    .exact TF H r h
   omega
  omega
def FV{b}(h:Er b=0):(1<=b.source/\b.source<=99)/\(1<=b.number/\b.number<=999999999)/\(1<=b.format/\b.format<=3)/\b.records.length<=4096/\∀r,r∈b.records->cL r=0:=by
 unfold Er at h;by_cases h1:Ie b.source b.number b.format=0
 .rw[zab h1]at h;by_cases h2:4096<b.records.length
  .omega
  .rw[zaa h2]at h;unfold Ie at h1;by_cases h3:(b.source<1∨99<b.source)∨(b.number<1∨999999999<b.number)
   .omega
   .by_cases h4:b.format<1∨3<b.format
    .omega
    .exact⟨by omega,by omega,by omega,by omega,TF h⟩
 omega
def Mi{r}(h:cL r=0):Zu r.source r.aJ=true:=by
 have g:=pP h;have h1:=g.source;have h2:=g.aJ;unfold Zu;rw[zbo];omega
def Ig{s n f l}(H:Can l)(hi:Zu s n=true)(g:1<=f/\f<=n)(h:∀r,r∈l->PL s n r)(d:hasB l s n=false):Can (rJ s n f l)/\∀p,zB p->Ib p ⟨s,f,n⟩->(∀r,r∈l->Ib p r)->∀x,x∈rJ s n f l->Ib p x:=by
 have hi':=zbk hi;cases l with
 | nil =>
  refine⟨⟨λx hx=>?_,by simp[rJ]⟩,λp a h1 h2 x hx=>?_⟩
  .simp[rJ]at hx;unfold zB;simp_all
  .simp[rJ]at hx;simp_all
 | cons r l =>
  have e:=h r (zal ..);have b:=H.ok r (zal ..);have hs:=zat.1 H.MK;have hn:¬(r.source=s/\r.from_<=n/\n<=r.uW):=by
   have:=zew.1 d r (zal ..);simp_all
  rw[rJ];by_cases h3:TR s n r
  .rw[zab h3];unfold TR at h3;have j:=b;unfold zB at j;refine⟨⟨λx hx=>?_,zat.2 ⟨λx hx=>?_,hs.2⟩⟩,λp a h1 h2 x hx=>?_⟩
   .rcases zao.1 hx with rfl|hx
    .unfold zB;grind
    .exact H.ok x (zak _ hx)
   .have:=hs.1 x hx;unfold Ib at this ⊢;simp_all
   .rcases zao.1 hx with rfl|hx
    .unfold Ib at h1 ⊢;omega
    simp_all
  .rw[zaa h3];unfold TR at h3;have j:=b;unfold zB at j;have c:Ib ⟨s,f,n⟩ r:=by
    unfold Ib;unfold PL at e;grind
   refine⟨⟨λx hx=>?_,zat.2 ⟨λx hx=>?_,H.MK⟩⟩,λp a h1 h2 x hx=>?_⟩
   .rcases zao.1 hx with rfl|hx
    .unfold zB;simp_all
    .exact H.ok x hx
   .rcases zao.1 hx with rfl|hx
    .exact c
    .have:=hs.1 x hx;unfold Ib at this c ⊢;omega
   grind
def Ih{s n}(hi:Zu s n=true):∀{l},Can l->hasB l s n=false->Can (kv s n l)/\∀p,zB p->Ib p ⟨s,n,n⟩->(∀r,r∈l->Ib p r)->∀x,x∈kv s n l->Ib p x
 | [],h,H=>Ig h hi (by have:=zbk hi;omega) (by simp) H
 | r::l,h,H=>by
  have hi':=zbk hi;have b:=h.ok r (zal ..);have hs:=zat.1 h.MK;have j:=b;unfold zB at j;by_cases a:PL s n r
  .rw[kv,zab a];exact Ig h hi (by omega) (λx hx=>by
    rcases zao.1 hx with rfl|hx
    .exact a
    .exact FR (hs.1 x hx) (h.ok x (zak _ hx)) a) H
  .rw[kv,zaa a];by_cases h1:TL s n r
   .rw[zab h1];have D:=h1;unfold TL at D;have:=Ig (f:=r.from_) h.tail hi (by omega) (λx hx=>by
     have h3:=hs.1 x hx;have d:=h.ok x (zak _ hx);unfold Ib at h3;unfold zB at d;unfold PL;omega) (CT H)
    refine⟨this.1,λp c h2 h3 x hx=>this.2 p c ?_ (λy hy=>h3 y (zak _ hy)) x hx⟩;have:=h3 r (zal ..);unfold Ib at this ⊢;simp_all
   .rw[zaa h1];unfold TL at h1;unfold PL at a;obtain⟨k,k2⟩:=Ih hi h.tail (CT H);refine⟨⟨λx hx=>?_,zat.2 ⟨k2 r b ?_ hs.1,k.MK⟩⟩,λp c h2 h3 x hx=>?_⟩
    .rcases zao.1 hx with rfl|hx
     .exact b
     .exact k.ok x hx
    .unfold Ib;grind
    grind
def OA(s n f)(l):(rJ s n f l).length<=l.length+1:=by
 cases l with
 | nil=>simp[rJ]
 | cons r l=>rw[rJ];split<;>simp
def Ii(s n):∀l,(kv s n l).length<=l.length+1
 | []=>by simp[kv]
 | r::l=>by
  have h1:=OA s n n (r::l);have h2:=OA s n r.from_ l;have h3:=Ii s n l;rw[kv]
  grind
abbrev Tri:=LQ Range×LQ aa×LQ ai
def PD(w:eD)(r:aa):= ¬(r.start<w.BX∨r.start > w.Lg)
instance (w:eD)(r:aa):Decidable (PD w r):=by unfold PD;infer_instance
def rjF(r:aa)(i e:Int):ai:=⟨r.source,r.aJ,i,e⟩
def dP(w:eD):List Range->Int->List aa->Tri
  | l,i,[]=>(l,[],[])
  | l,i,r::t =>
    if PD w r then
      if hasB l r.source r.aJ=false then((dP w (kv r.source r.aJ l) (i+1) t).1,r::(dP w (kv r.source r.aJ l) (i+1) t).2.1,(dP w (kv r.source r.aJ l) (i+1) t).2.2)
       else((dP w l (i+1) t).1,(dP w l (i+1) t).2.1,rjF r i 13::(dP w l (i+1) t).2.2)
    else((dP w l (i+1) t).1,(dP w l (i+1) t).2.1,rjF r i 15::(dP w l (i+1) t).2.2)
def gP:List Range->List (Int×aa)->Tri
 | l,[]=>(l,[],[])
 | l,p::t =>
  if hasB l p.2.source p.2.aJ=false then((gP (kv p.2.source p.2.aJ l) t).1,p.2::(gP (kv p.2.source p.2.aJ l) t).2.1,(gP (kv p.2.source p.2.aJ l) t).2.2)
  else((gP l t).1,(gP l t).2.1,rjF p.2 p.1 13::(gP l t).2.2)
def pW(w:eD):Int->List aa->List (Int×aa)
 | i,[]=>[]
 | i,r::t=>if PD w r then(i,r)::pW w (i+1) t else pW w (i+1) t
def nW(w:eD):Int->List aa->List ai
 | i,[]=>[]
 | i,r::t=>if PD w r then nW w (i+1) t else rjF r i 15::nW w (i+1) t
def Rl:Int->List aa->List (Int×aa)
 | i,[]=>[]
 | i,r::t=>(i,r)::Rl (i+1) t
def Kc(w):∀t l i,(dP w l i t).1=(gP l (pW w i t)).1/\(dP w l i t).2.1=(gP l (pW w i t)).2.1/\(dP w l i t).2.2.Perm (nW w i t++(gP l (pW w i t)).2.2)
 | [],l,i=>⟨rfl,rfl,List.Perm.refl _⟩
 | r::t,l,i=>by
  by_cases h:PD w r
  .by_cases H:hasB l r.source r.aJ=false
   .obtain⟨a,b,c⟩:=Kc w t (kv r.source r.aJ l) (i+1);simp[dP,pW,nW,gP,zab h];simp_all
   .obtain⟨a,b,c⟩:=Kc w t l (i+1);simp[dP,pW,nW,gP,zab h,zaa H];exact⟨a,b,(c.cons _).trans List.perm_middle.symm⟩
  .obtain⟨a,b,c⟩:=Kc w t l (i+1);simp[dP,pW,nW];simp_all
def Mj(w):∀t l i,(∀x,x∈(dP w l i t).2.2->i<=x.index)/\(dP w l i t).2.2.Pairwise λa b=>a.index<b.index
 | [],l,i=>⟨λx hx=>by simp[dP]at hx,by simp[dP]⟩
 | r::t,l,i=>by
  by_cases h:PD w r
  .by_cases H:hasB l r.source r.aJ=false
   .obtain⟨a,b⟩:=Mj w t (kv r.source r.aJ l) (i+1);simp[dP]
    grind
   .obtain⟨a,b⟩:=Mj w t l (i+1);simp only[dP,zab h,zaa H];refine⟨λx hx=>?_,zat.2 ⟨λx hx=>?_,b⟩⟩
    .rcases zao.1 hx with rfl|hx
     .exact zgh _
     grind
    .have:=a x hx;simp[rjF];omega
  .obtain⟨a,b⟩:=Mj w t l (i+1);simp only[dP,zaa h];refine⟨λx hx=>?_,zat.2 ⟨λx hx=>?_,b⟩⟩
   .rcases zao.1 hx with rfl|hx
    .exact zgh _
    grind
   .have:=a x hx;simp[rjF];omega
def Mk(x):∀l,(Fh x l).Perm (x::l)
 | []=>List.Perm.refl _
 | y::l=>by
  rw[Fh];split
  .simp_all
  .exact((Mk x l).cons y).trans (List.Perm.swap x y l)
def OB:∀l,(JQ l).Perm l
 | []=>List.Perm.refl _
 | x::l=>(Mk x _).trans ((OB l).cons x)
def TG(x):∀{l},l.Pairwise (λa b=>a.index<=b.index)->(Fh x l).Pairwise λa b=>a.index<=b.index
 | [],_=>by simp[Fh]
 | y::l,h=>by
  have h':=zat.1 h;rw[Fh];by_cases U:x.index<=y.index
  .rw[zab U];refine zat.2 ⟨λz H=>?_,h⟩
   grind
  .rw[zaa U];refine zat.2 ⟨λz H=>?_,TG x h'.2⟩;rcases zao.1 ((Mk x l).mem_iff.1 H)with rfl|H
   .omega
   simp_all
def OC:∀l,(JQ l).Pairwise λa b=>a.index<=b.index
 | []=>List.Pairwise.nil
 | x::l=>TG x (OC l)
def OD:∀{l l':LQ ai},l.Pairwise (λa b=>a.index<=b.index)->l'.Pairwise (λa b=>a.index<b.index)->l.Perm l'->l=l'
 | [],l',_,_,p=>by rw[List.Perm.nil_eq p]
 | a::l,[],_,_,p=>by have:=p.length_eq;grind
 | a::l,b::l',h,h',p=>by
  have h1:=zat.1 h;have h2:=zat.1 h';have e:a=b:=by
   grind
  subst e;rw[OD h1.2 h2.2 p.cons_inv]
def p_sort{l d}(h:d.Pairwise λa b=>a.index<b.index)(p:d.Perm l)(hl:l.length<=10000000):ru l=some d:=by
 unfold ru;have hn:(l.map (·.index)).Nodup:=by
  grind
 rw[ae ⟨by omega,hn⟩,OD (OC l) h ((OB l).trans p.symm)]
def Rm(f:Int->Int):∀ps l,gP l (ps.map λp=>(f p.1,p.2))=((gP l ps).1,(gP l ps).2.1,(gP l ps).2.2.map λx=>⟨x.source,x.aJ,f x.index,x.err⟩)
 | [],l=>rfl
 | p::t,l=>by
  simp[gP];by_cases h:hasB l p.2.source p.2.aJ=false
  .simp[zab h,Rm f t]
  .simp[zaa h,Rm f t,rjF]
def ZA(full):∀(ps:LQ (Int×aa)) k,0<=k->(∀j,j<ps.length->nth full (k.toNat+j)=nth (ps.map (·.1)) j)->(Rl k (ps.map (·.2))).map (λp=>(nth full p.1.toNat,p.2))=ps
 | [],k,_,_=>rfl
 | p::ps,k,h0,h=>by
  have h1:=h 0 (by simp);rw[zct,zbb]at h1;simp only[zbb,Rl,h1];congr 1;exact ZA full ps (k+1) (by omega) (λj H=>by
   have:=h (j+1) (by simp_all);rw[zbb,gA]at this
   grind)
def Rn{lo hi}:∀{ps l},(∀p,p∈ps->lo<=p.1/\p.1<hi)->∀x,x∈(gP l ps).2.2->lo<=x.index/\x.index<hi
 | [],l,_,x,hx=>by simp[gP]at hx
 | p::t,l,h,x,hx=>by
  have h':=λq a=>h q (zak _ a)
  rw[gP]at hx;by_cases H:hasB l p.2.source p.2.aJ=false
  .rw[zab H]at hx;exact Rn h' x hx
  .rw[zaa H]at hx;rcases zao.1 hx with rfl|hx
   .exact h p (zal ..)
   .exact Rn h' x hx
def ZB:∀t i p,p∈Rl i t->i<=p.1/\p.1<i+t.length
 | [],i,p,h=>by simp[Rl]at h
 | r::t,i,p,h=>by
  rcases zao.1 h with rfl|h
  .grind
  .have:=ZB t (i+1) p h
   grind
def Ml:∀ps l,(gP l ps).2.1.length+(gP l ps).2.2.length=ps.length/\(gP l ps).1.length<=l.length+ps.length
 | [],l=>by simp[gP]
 | p::t,l=>by
  rw[gP];by_cases h:hasB l p.2.source p.2.aJ=false
  .have:=Ml t (kv p.2.source p.2.aJ l);have h2:=Ii p.2.source p.2.aJ l
   grind
  .have:=Ml t l
   grind
def Ro(w):∀t i,(pW w i t).length+(nW w i t).length=t.length
 | [],i=>rfl
 | r::t,i=>by
  have:=Ro w t (i+1);rw[pW,nW]
  grind
def Ij(w):∀t i p,p∈pW w i t->i<=p.1/\p.1<i+t.length/\nth t (p.1-i).toNat=p.2/\p.2∈t
 | [],i,p,h=>by simp[pW]at h
 | r::t,i,p,h=>by
  have key:p∈pW w (i+1) t->i<=p.1/\p.1<i+(r::t).length/\nth (r::t) (p.1-i).toNat=p.2/\p.2∈r::t:=λh=>by
   obtain⟨a,b,c,d⟩:=Ij w t (i+1) p h;refine⟨by omega,by grind,?_,zak _ d⟩;rw[show(p.1-i).toNat=(p.1-(i+1)).toNat+1 from by omega];exact c
  rw[pW]at h;by_cases H:PD w r
  .rw[zab H]at h;rcases zao.1 h with rfl|h
   .refine⟨zgh _,by grind,?_,zal ..⟩;rw[show(i-i).toNat=0 from by omega,gB]
   simp_all
  simp_all
def Rp:∀{ps l r},r∈(gP l ps).2.1->∃p,p∈ps/\p.2=r
 | [],l,r,h=>by simp[gP]at h
 | p::t,l,r,h=>by
  rw[gP]at h;by_cases H:hasB l p.2.source p.2.aJ=false
  .rw[zab H]at h;rcases zao.1 h with rfl|h
   .simp_all
   .obtain⟨q,h1,h2⟩:=Rp h;grind
  .rw[zaa H]at h;obtain⟨q,h1,h2⟩:=Rp h;grind
def wH:∀(now l),(fu now l).1.length+(fu now l).2.length<=now.length+l.length
 | now,[]=>by simp[fu]
 | now,r::l=>by
  have h1:=J8 now r;have h2:=wH (jt now r).2 l;simp[fu];omega
def p_win r(w):kJ r w=some (if PD w r then 0 else 15):=by
 unfold kJ;by_cases h:PD w r
 .rw[zab h,zaa (by unfold PD at h;grind)]
 .rw[zaa h,zab (by have h':=Decidable.not_not.1 h;simp_all)]
def ZC l w(hl:l.length<=10000000):qR l w=some ((pW w 0 l).map (·.1),nW w 0 l):=by
 refine(bG l (λst:LQ ai×LQ Int×Int=>st.2.2) (λst t=>some (st.2.1++(pW w st.2.2 t).map (·.1),st.1++nW w st.2.2 t)) (λst t=>st.1.length+st.2.1.length+t.length<=10000000) (by omega) ?_ ?_ rfl (by simp_all)).trans (by simp)
 .rintro⟨y,a,i⟩ _ hi;unfold nT;rw[zaa (by simp_all)];exact⟨_,rfl,by simp[pW,nW]⟩
 .rintro⟨y,a,i⟩ r t c x b hx H;unfold nT;rw[zab (by simp_all),ae ⟨x,b⟩,hx,p_win,zac];by_cases h:PD w r
  .rw[zab h,zaa (by simp),ae (by grind),ae (by omega)];refine .inr ⟨_,rfl,by grind,rfl,?_⟩;simp[pW,nW,zab h]
  .rw[zaa h,zab (by simp),ae (by grind),ae (by omega)];refine .inr ⟨_,rfl,by grind,rfl,?_⟩;simp only[pW,nW,zaa h,rjF,zas,zeh]
def ZD l tc(f:Can l)(hv:∀r,r∈tc->cL r=0)(hl:l.length+tc.length<=5000000):oN l tc=some (gP l (Rl 0 tc)):=by
 unfold oN il;rw[ae (by omega)];refine(bG tc (λst:LQ Range×LQ aa×Int×LQ ai=>st.2.2.1) (λst t=>some ((gP st.1 (Rl st.2.2.1 t)).1,st.2.1++(gP st.1 (Rl st.2.2.1 t)).2.1,st.2.2.2++(gP st.1 (Rl st.2.2.1 t)).2.2)) (λst t=>Can st.1/\(st.1.length+t.length<=5000000/\st.2.1.length+st.2.2.2.length+t.length<=5000000)/\∀r,r∈t->cL r=0) (by omega) ?_ ?_ (s:=(l,([]),(0),([]))) rfl ⟨f,⟨hl,by grind⟩,hv⟩).trans (by simp)
 .rintro⟨y,o,i,e⟩ _ hi;unfold oM oL;rw[zaa (by simp_all)];exact⟨_,rfl,by simp[gP,Rl]⟩
 .rintro⟨y,o,i,e⟩ r t ⟨hy,⟨I,E⟩,ht⟩ H a hx h;simp only at hy I E ht H a hx h ⊢;have g:=ht r (zal ..);have hid:=Mi g;have c:=zbk hid;have d:∀x,x∈t->cL x=0:=λx hx=>ht x (zak _ hx)
  unfold oM;rw[zab (by simp_all),ae ⟨H,a⟩,hx];simp only[fg,J9,zac];rw[show decide ((1<=r.source/\r.source<=99)/\1<=r.aJ/\r.aJ<=999999999)=true from hid,zaa (by simp),p_gHas y _ _ hy (by omega),zac,hid,Bool.and_true];simp only[Rl,gP];by_cases b:hasB y r.source r.aJ=false
  .rw[zaa (by simp[b]),zab b,Zy y _ _ hy (by omega) (by omega),zac,ae (by grind),ae (by omega)];have:=Ii r.source r.aJ y;refine .inr ⟨_,rfl,⟨(Ih hid hy b).1,⟨by grind,by grind⟩,d⟩,rfl,?_⟩;simp_all
  .rw[zab (by simp_all),zaa b];unfold lX;rw[ae ⟨H,a⟩,ae ⟨H,a⟩,hx,ae (by grind),zac,ae (by omega)];refine .inr ⟨_,rfl,⟨hy,⟨by grind,by grind⟩,d⟩,rfl,?_⟩;simp only[rjF,zas,zeh]
def atF(a:LQ Int)(x:ai):ai:=⟨x.source,x.aJ,nth a x.index.toNat,x.err⟩
abbrev Res:=dH×LQ aa×LQ ai×Int
def p_acc1 b y3 y4(y5:Tri)(R:Res)(h:∀x,x∈y5.2.2->0<=x.index/\x.index<y3.1.length)(hl:y3.2.length+y5.2.2.length<=10000000)
  (g:gO b y4 y5 (y3.2++y5.2.2.map (atF y3.1))=some R):loop (λs:LQ ai×Int=>jX b y3 y4 y5 s.1 s.2) (y3.2,0)=some R:=by
 refine bG y5.2.2 (λst:LQ ai×Int=>st.2) (λst t=>some R) (λst t=>st.1++t.map (atF y3.1)=y3.2++y5.2.2.map (atF y3.1)/\∀x,x∈t->0<=x.index/\x.index<y3.1.length) (by omega) ?_ ?_ rfl ⟨rfl,h⟩
 .rintro⟨y,i⟩ ⟨H,_⟩ hi;simp at H hi ⊢;unfold jX;simp_all
 .rintro⟨y,i⟩ x t ⟨H,hk⟩ d e hx a;simp only at H hk d e hx a ⊢;have c:=hk x (zal ..);have hle:=zaq List.length H;unfold jX;rw[zab (by simp_all),ae ⟨d,e⟩,hx,ae c,ae (by grind),ae (by omega)];refine .inr ⟨_,rfl,⟨?_,λz f=>hk z (zak _ f)⟩,rfl,trivial⟩;rw[←H];simp[atF]
def p_acc2 v b y3(R:Res)(h:∀i,i∈y3.1->0<=i/\i<b.records.length)(hl:y3.1.length<=10000000)
  (f:gQ v b y3 (y3.1.map λi=>nth b.records i.toNat)=some R):loop (λs:LQ aa×Int=>jY v b y3 s.1 s.2) ([],0)=some R:=by
 refine bG y3.1 (λst:LQ aa×Int=>st.2) (λst t=>some R) (λst t=>st.1++t.map (λi=>nth b.records i.toNat)=y3.1.map (λi=>nth b.records i.toNat)/\∀x,x∈t->0<=x/\x<b.records.length) (by omega) ?_ ?_ rfl ⟨rfl,h⟩
 .rintro⟨y,i⟩ ⟨H,_⟩ hi;simp at H hi ⊢;unfold jY;simp_all
 .rintro⟨y,i⟩ x t ⟨H,hk⟩ d e hx c;have a:=hk x (zal ..);have hle:=zaq List.length H;unfold jY;rw[ae ⟨d,e⟩,hx,ae a,ae (by grind),ae (by omega)];simp_all
def noS:dH:=⟨ [],[],[]⟩
def CU(v:dH)(b:Batch)(w:eD):Res:=(⟨(dP w v.seen 0 b.records).1,(fu v.open_ (dP w v.seen 0 b.records).2.1).2,v.aZ++[⟨b.source,b.number,b.format,b.records.length⟩]⟩,(fu v.open_ (dP w v.seen 0 b.records).2.1).1,(dP w v.seen 0 b.records).2.2,0)
def lG(v:dH)(b:Batch)(w:eD):= if Er b=0 then if b.number=qD b.source 1 v.aZ then CU v b w else(noS,[],[],20)else(noS,[],[],Er b)
structure Vq(v:dH)(b:Batch):Prop where
 qY:yu v
 seen:v.seen.length<=60000
 aZ:v.aZ.length<=60000
 opens:v.open_.length<=60000
 tc:b.records.length<=10000
 sm:∀r,r∈b.records->Sm r
def Vq.sml{v b}(h:Vq v b):SmL b.records:=λr H=>by
 have:=h.sm r H;unfold Sm at this;omega
def Vq.okN{v b}(h:Vq v b):∀x,x∈v.aZ->OkN x:=λx hx=>TA (Mg h.qY.aZ x hx)
def Mm{w l t i r}(h:r∈(dP w l i t).2.1):r∈t:=by
 rw[(Kc w t l i).2.1]at h;obtain⟨p,h1,h2⟩:=Rp h;have:=(Ij w t i p h1).2.2.2
 rwa [h2]at this
def Mn w l t(i):(dP w l i t).2.1.length+(dP w l i t).2.2.length<=t.length/\(dP w l i t).1.length<=l.length+t.length:=by
 obtain⟨a,b,c⟩:=Kc w t l i;have h1:=Ml (pW w i t) l;have h2:=Ro w t i;have h3:=c.length_eq;rw[zar]at h3;rw[a,b];omega
def p_j1 v b(h:Vq v b) ps no(T:Tri)(hv:∀r,r∈ps.map (·.2)->cL r=0)(hl:ps.length+no.length<=10000)(c:T.1=(gP v.seen ps).1)(d:T.2.1=(gP v.seen ps).2.1)(e:T.2.2.Perm (no++(gP v.seen ps).2.2))(f:T.2.2.Pairwise λa b=>a.index<b.index)(hm:∀r,r∈T.2.1->cL r=0)(hlen:T.2.1.length+T.2.2.length<=10000):
  gQ v b (ps.map (·.1),no) (ps.map (·.2))=some (⟨T.1,(fu v.open_ T.2.1).2,v.aZ++[⟨b.source,b.number,b.format,b.records.length⟩]⟩,(fu v.open_ T.2.1).1,T.2.2,0):=by
 have hs:=h.seen;have u:=h.aZ;have w:=h.opens;have F:=ZA (ps.map (·.1)) ps 0 (by omega) (λj y=>by rw[show(0:Int).toNat+j=j from by omega])
 have g:=Rm (λi=>nth (ps.map (·.1)) i.toNat) (Rl 0 (ps.map (·.2))) v.seen
 rw[F]at g;have n:=Ml (Rl 0 (ps.map (·.2))) v.seen
 have k:∀x,x∈(gP v.seen (Rl 0 (ps.map (·.2)))).2.2->0<=x.index/\x.index<(ps.length):=Rn (λp o=>by
  have:=ZB _ _ p o;rw[zcb]at this;omega)
 have q:=ZD v.seen (ps.map (·.2)) h.qY.can hv (by rw[zcb];omega)
 unfold gQ qS il eH od;rw[ae (by omega),ae (by omega),ae (by omega)];simp only[zac];rw[q,zac];generalize gP v.seen (Rl 0 (ps.map (·.2)))=E at *
 rw[g]at c d e;generalize l:ps.map (·.1)=H at *
 have s:H.length=ps.length:=by rw[←l,zcb]
 have t:gO b (v.seen,v.open_,v.aZ) E (no++E.2.2.map (atF H))=some ((⟨T.1,(fu v.open_ T.2.1).2,v.aZ++[(⟨b.source,b.number,b.format,(b.records.length:Int)⟩:Head)]⟩:dH),(fu v.open_ T.2.1).1,T.2.2,0):=by
  unfold gO;have m:T.2.2.Perm (no++E.2.2.map (atF H)):=e;rw[p_sort f m (by rw[←m.length_eq];omega),zac];simp only at c d ⊢;rw[←c,←d,p_Join v.open_ _ h.qY.opn.wt hm (by omega),zac,ae (by grind)]
 exact p_acc1 b (H,no) (v.seen,v.open_,v.aZ) E _ (λx hx=>by have:=k x hx;simp_all) (by grind) t
def ZE v b w(h:Vq v b):nA v b w=some (lG v b w):=by
 have m:=h.aZ;unfold nA lG;rw[p_bChk b h.sml,zac];by_cases H:Er b=0
 .obtain⟨k,k2,k3,k4,k5⟩:=FV H;rw[zaa (by simp[H]),zab H,Zv v _ (by omega) h.okN,zac,zab k];by_cases hn:b.number=qD b.source 1 v.aZ
  .rw[zaa (by simp[hn]),zab hn,ZC b.records w (by omega),zac];have K:=Ro w b.records 0;obtain⟨d1,d2,d3⟩:=Kc w b.records v.seen 0;have B:=Mn w v.seen b.records 0;have g:((pW w 0 b.records).map (·.1)).map (λi=>nth b.records i.toNat)=(pW w 0 b.records).map (·.2):=by
    rw[List.map_map];refine zeo (λp j=>?_);have:=(Ij w b.records 0 p j).2.2.1;simp_all
   have a:∀r,r∈(pW w 0 b.records).map (·.2)->cL r=0:=λr c=>by
    obtain⟨p,h1,h2⟩:=zck.1 c;rw[←h2];exact k5 _ (Ij w b.records 0 p h1).2.2.2
   have d:∀i,i∈(pW w 0 b.records).map (·.1)->0<=i/\i<(b.records.length:Int):=λi hi=>by
    obtain⟨p,h1,h2⟩:=zck.1 hi;have:=Ij w b.records 0 p h1;rw[←h2];omega
   have l:=p_j1 v b h (pW w 0 b.records) (nW w 0 b.records) (dP w v.seen 0 b.records) a (by omega) d1 d2 d3 (Mj w b.records v.seen 0).2 (λr c=>k5 r (Mm c)) (by omega);unfold CU;generalize nW w 0 b.records=no at *;have e:((pW w 0 b.records).map (·.1)).length<=10000000:=by rw[zcb];omega
   generalize(pW w 0 b.records).map (·.1)=f at *
   generalize(pW w 0 b.records).map (·.2)=ls at *
   subst g;exact p_acc2 v b (f,no) _ d e l
  .rw[zab (by simp_all),zaa hn];rfl
 .rw[zab (by simp_all),zaa H];rfl
def ZF v b w(h:Vq v b):(lG v b w).1.seen.length<=1000000/\(lG v b w).1.open_.length<=1000000/\(lG v b w).1.aZ.length<=1000000/\(lG v b w).2.1.length<=1000000/\(lG v b w).2.2.1.length<=1000000:=by
 have hs:=h.seen;have H:=h.aZ;have a:=h.opens;have c:=h.tc;have B:=Mn w v.seen b.records 0;have d:=wH v.open_ (dP w v.seen 0 b.records).2.1;unfold lG;split
 .split
  .simp[CU];omega
  .simp[noS]
 .simp[noS]
def OE{s n f l}(d:f<=n)(h:∀r,r∈l->PL s n r/\zB r)(e:hasB l s n=false)(a H):hasB (rJ s n f l) a H=(hasB l a H || decide (s=a/\f<=H/\H<=n)):=by
 cases l with
 | nil=>simp[rJ,hasB]
 | cons r l =>
  have b:=h r (zal ..);have g:=b.2;have c:=b.1;unfold PL at c;rw[rJ];unfold hasB;by_cases h3:TR s n r
  .rw[zab h3];unfold TR at h3
   grind
  grind
def OF{s n}:∀{l},Can l->hasB l s n=false->∀H h,hasB (kv s n l) H h=(hasB l H h || decide (s=H/\n=h))
 | [],_,_,H,h=>by
  simp only[kv,hasB,zdz,List.any_nil,zea,zfr];rw[zbt,zbo,zbo];omega
 | r::l,a,c,H,h=>by
  have d:=a.ok r (zal ..);have hs:=zat.1 a.MK;have j:=d;unfold zB at j;have e0:decide (s=H/\n<=h/\h<=n)=decide (s=H/\n=h):=by rw[zbt,zbo,zbo];omega
  by_cases b:PL s n r
  .rw[kv,zab b,OE (by omega) (λx hx=>⟨by
    rcases zao.1 hx with rfl|hx
    .exact b
    .exact FR (hs.1 x hx) (a.ok x (zak _ hx)) b,a.ok x hx⟩) c,e0]
  .rw[kv,zaa b];by_cases h1:TL s n r
   .rw[zab h1];have D:=h1;unfold TL at D;rw[OE (by omega) (λx hx=>⟨by
     have h3:=hs.1 x hx;have e:=a.ok x (zak _ hx);unfold Ib at h3;unfold zB at e;unfold PL;omega,a.ok x (zak _ hx)⟩) (CT c)]
    unfold hasB
    grind
   .rw[zaa h1];have i:=OF a.tail (CT c) H h;unfold hasB at i ⊢;rw[zdz,zdz,i,Bool.or_assoc]
def OG{s n f l}(k):zC k (rJ s n f l)=zC k l+if s=k then n-f+1 else 0:=by
 cases l with
 | nil=>simp[rJ,zC]
 | cons r l =>
  rw[rJ];by_cases h3:TR s n r
  .rw[zab h3];unfold TR at h3;simp[zC];omega
  .rw[zaa h3];simp[zC];omega
def OH{s n}(k):∀l,zC k (kv s n l)=zC k l+if s=k then 1 else 0
 | []=>by simp only[kv,zC];split<;>omega
 | r::l=>by
  rw[kv];by_cases h:PL s n r
  .rw[zab h,OG];split<;>omega
  .rw[zaa h];by_cases h1:TL s n r
   .rw[zab h1,OG];unfold TL at h1;simp[zC];omega
   .rw[zaa h1];simp[zC,OH k l];omega
def NS(a b:aa):= ¬(a.source=b.source/\a.aJ=b.aJ)
def TH{a b}(h:NS a b):NS b a:=λk=>h ⟨k.1.symm,k.2.symm⟩
def TJ(l):∀(t d),opB l d t=true↔(∀r,r∈t->hasB l r.source r.aJ=true/\Zu r.source r.aJ=true)/\(∀a,a∈d->∀r,r∈t->NS a r)/\t.Pairwise NS
 | [],d=>by simp[opB]
 | r::t,d=>by
  rw[opB,zam,zam,TJ l t (d++[r])];have e:(!(d.any λx=>Rg x r))=true↔∀a,a∈d->NS a r:=by
   rw[zdy,zew];simp only[Rg,zam,zcc];exact Iff.rfl
  rw[zat]
  grind
def FW l(t):opB l [] t=true↔(∀r,r∈t->hasB l r.source r.aJ=true/\Zu r.source r.aJ=true)/\t.Pairwise NS:=by
 rw[TJ];simp
def ZG{now r}(h:now.Pairwise NS)(b:∀a,a∈now->NS a r):(jt now r).2.Pairwise NS/\∀x,x∈(jt now r).2->x=r∨x∈now:=by
 unfold jt;split
 .simp_all
 .have hi:=((vj now r).pairwise_iff TH).2 (zat.2 ⟨λa ha=>TH (b a ha),h⟩);have H:=Ep r (now.length+2) (oW now r);exact⟨hi.sublist H,λx hx=>CK.1 (H.subset hx)⟩
def OI:∀{l now},(now++l).Pairwise NS->(fu now l).2.Pairwise NS/\∀x,x∈(fu now l).2->x∈now++l
 | [],now,h=>by
  rw[zbr]at h;exact⟨h,λx hx=>by simpa[fu] using hx⟩
 | r::l,now,h=>by
  have h':=zdv.1 h;obtain⟨k,k2⟩:=ZG h'.1 (λa ha=>h'.2.2 a ha r (zal ..));have hl:=zat.1 h'.2.1;have:=zdv.2 ⟨k,hl.2,λa ha b H=>by
   grind⟩
  obtain⟨m,c⟩:=OI this;simp[fu]
  grind
def CV(w):∀t l i,Can l->(∀r,r∈t->cL r=0)->Can (dP w l i t).1/\(∀s n,hasB l s n=true->hasB (dP w l i t).1 s n=true)/\(∀r,r∈(dP w l i t).2.1->hasB (dP w l i t).1 r.source r.aJ=true/\hasB l r.source r.aJ=false)/\(dP w l i t).2.1.Pairwise NS/\∀r,r∈t->PD w r->hasB (dP w l i t).1 r.source r.aJ=true
 | [],l,i,a,_=>⟨a,λ_ _ h=>h,by simp[dP],by simp[dP],by simp⟩
 | r::t,l,i,a,hv=>by
  have c:=Mi (hv r (zal ..));have M:=λx hx=>hv x (zak _ hx)
  by_cases d:PD w r
  .by_cases b:hasB l r.source r.aJ=false
   .obtain⟨e,f,g,j,m⟩:=CV w t (kv r.source r.aJ l) (i+1) (Ih c a b).1 M;have R:=OF a b;have H:hasB (kv r.source r.aJ l) r.source r.aJ=true:=by rw[R];simp
    simp only[dP,zab d,zab b];refine⟨e,λs n h=>f s n (by rw[R,h,Bool.true_or]),λx hx=>?_,zat.2 ⟨λx hx k=>?_,j⟩,λx hx o=>?_⟩
    .grind
    .have:=(g x hx).2;rw[←k.1,←k.2,H]at this;cases this
    grind
   .obtain⟨e,f,g,j,m⟩:=CV w t l (i+1) a M;simp only[dP,zab d,zaa b];simp_all
  .obtain⟨e,f,g,j,m⟩:=CV w t l (i+1) a M;simp only[dP,zaa d];simp_all
def OJ{s}:∀{l},Mh s l=0->∀r,r∈l->r.source=s
 | [],_,r,h=>by cases h
 | x::l,H,r,h=>by
  rw[Mh]at H;by_cases a:cL x=0
  .rw[zab a]at H;by_cases hs:x.source=s
   .rw[zab hs]at H;rcases zao.1 h with rfl|h
    .exact hs
    .exact OJ H r h
   omega
  omega
def ZH{b}(h:Er b=0):∀r,r∈b.records->r.source=b.source:=by
 unfold Er at h;by_cases h1:Ie b.source b.number b.format=0
 .rw[zab h1]at h;by_cases h2:4096<b.records.length
  .omega
  .rw[zaa h2]at h;exact OJ h
 omega
def Mo w(s k):∀t l i,(∀r,r∈t->r.source=s)->zC k (dP w l i t).1=zC k l+if s=k then((dP w l i t).2.1.length:Int)else 0
 | [],l,i,_=>by simp[dP]
 | r::t,l,i,h=>by
  have c:=h r (zal ..);have h':=λx hx=>h x (zak _ hx)
  by_cases H:PD w r
  .by_cases a:hasB l r.source r.aJ=false
   .have b:=Mo w s k t (kv r.source r.aJ l) (i+1) h';simp[dP,zab H,zab a];rw[b,OH];omega
   .simp[dP,zab H,zaa a];exact Mo w s k t l (i+1) h'
  .simp[dP,zaa H];exact Mo w s k t l (i+1) h'
def OK:∀{l d h},hdB d l=true->Vo h->h.number=qD h.source 1 (d++l)->hdB d (l++[h])=true
 | [],d,h,_,a,hn=>by
  simp[hdB];simp_all
 | x::l,d,h,H,a,hn=>by
  simp[hdB]at H ⊢;refine⟨H.1,OK H.2 a ?_⟩;rw[hn];simp
def ZI{v b w}(h:Vq v b)(d:Er b=0)(hn:b.number=qD b.source 1 v.aZ):yu (CU v b w).1:=by
 obtain⟨g,k2,k3,k4,k5⟩:=FV d;obtain⟨e,a2,a3,a4,a5⟩:=CV w b.records v.seen 0 h.qY.can k5;have H:∀r,r∈(dP w v.seen 0 b.records).2.1->cL r=0:=λr a=>k5 r (Mm a)
 have V:=(FW _ _).1 h.qY.ids;have B:=Mn w v.seen b.records 0;refine⟨OK h.qY.aZ ?_ (by simp_all),e,J4 h.qY.opn H,?_,?_⟩
 .unfold Vo;grind
 .rw[FU];intro k _ _;have h1:=(FU _ _ _ _).1 h.qY.Bz k (by omega) (by omega);show zC k (dP w v.seen 0 b.records).1<=Ov k (v.aZ++[_]);rw[Mo w b.source k b.records v.seen 0 (ZH d),Ka]
  grind
 .rw[FW];have c:=zdv.2 ⟨V.2,a4,λx hx y hy k=>by
   have h1:=(V.1 x hx).1;have h2:=(a3 y hy).2;rw[k.1,k.2,h2]at h1;cases h1⟩
  obtain⟨m,f⟩:=OI c;refine⟨λr a=>?_,m⟩;rcases zbi.1 (f r a)with hx|hx
  .exact⟨a2 _ _ (V.1 r hx).1,(V.1 r hx).2⟩
  .exact⟨(a3 r hx).1,Mi (H r hx)⟩
structure RunI(V:dH)(i:Int):Prop where
 qY:yu V
 seen:(V.seen.length:Int)<=40*i
 aZ:(V.aZ.length:Int)<=i
 opens:(V.open_.length:Int)<=40*i
def RunI.next{V i}(h:RunI V i)(hi:i<=12)(s):mS V s=some (if 1<=s/\s<=99 then qD s 1 V.aZ else 0):=
 Zv V s (by have:=h.aZ;omega) (λx hx=>TA (Mg h.qY.aZ x hx))
def vr{α:Type}(lt:α->α->Bool)(x:α):List α->List α
 | []=>[x]
 | y::t=>if lt y x then y::vr lt x t else x::y::t
def CW{α} lt(x):∀(l:LQ α),(vr lt x l).length=l.length+1
 | []=>rfl
 | y::t=>by
  unfold vr;split
  .rw[zap,CW lt x t,zap]
  .rfl
def FX{α} lt(x):∀l (z:α),z∈vr lt x l↔z=x∨z∈l
 | [],z=>by simp[vr]
 | y::t,z=>by
  unfold vr;split
  .rw[zao,FX lt x t z]
   grind
  simp_all
def Ik{α}[Inhabited α]{step} l x(lt:α->α->Bool)(hl:l.length<=100000)
  (h:∀i:Int,0<=i->i<=l.length->step i=if i<l.length/\lt (nth l i.toNat) x=true then some (.inl (i+1))else some (.inr (l.take i.toNat++[x]++l.drop i.toNat))):loop step 0=some (vr lt x l):=by
 have:=bG (step:=step) l (λi:Int=>i) (λi t=>some (l.take i.toNat++vr lt x t)) (λi t=>l.drop i.toNat=t/\0<=i) (by omega) ?_ ?_ rfl ⟨by simp,by omega⟩
 .rw[this];simp
 .rintro i ⟨h1,h2⟩ h3;refine⟨(l.take i.toNat++[x])++l.drop i.toNat,?_,?_⟩
  .rw[h i h2 (by omega),zaa (by omega)]
  .rw[h1];simp[vr]
 .rintro i a t ⟨h1,h2⟩ h3 h4 H c;by_cases b:lt a x=true
  .refine .inr ⟨i+1,?_,⟨?_,by omega⟩,rfl,?_⟩
   .rw[h i h2 (by omega),zab ⟨h4,by rw[H];exact b⟩]
   .rw[show(i+1).toNat=i.toNat+1 from by omega,←zfb,h1];rfl
   .rw[show(i+1).toNat=i.toNat+1 from by omega,BC (by omega),H];simp[vr,b]
  .refine .inl ⟨(l.take i.toNat++[x])++l.drop i.toNat,?_,?_⟩
   .rw[h i h2 (by omega),zaa (by simp_all)]
   .rw[h1];simp[vr,b]
def Jn(a b:Int):= decide (a<b)
def OL l x(hl:l.length<=100000):iv l x=some (vr Jn x l):=by
 refine Ik l x Jn hl λi h0 h1=>?_
 unfold oh;rw[ae (λk=>⟨h0,by grind⟩)];have H:fL l x i=some ((l.take i.toNat++[x])++l.drop i.toNat):=by
  unfold fL;have e:(l.take i.toNat).length<=l.length:=zgc ..;have a:(l.drop i.toNat).length<=l.length:=by rw[zbc];omega
  rw[ae ⟨h0,h1⟩,ae (by omega),ae (by rw[zcm];omega),ae ⟨h0,h1⟩,ae (by rw[zar,zcm];omega)]
 rw[H];by_cases h:i<(l.length)/\Jn (nth l i.toNat) x=true
 .rw[zab h,zab (by simp;exact⟨h.1,by simpa[Jn] using h.2⟩),ae ⟨by omega,by omega⟩]
 .rw[zaa h,zaa (λk=>h (by simp at k;exact⟨k.1,by simpa[Jn] using k.2⟩))];rfl
def OM l x(hl:l.length<=100000):fM l x=some (vr mr x l):=by
 refine Ik l x mr hl λi h0 h1=>?_
 unfold ly;rw[ae (λk=>⟨h0,by grind⟩)];have H:eP l x i=some ((l.take i.toNat++[x])++l.drop i.toNat):=by
  unfold eP;have e:(l.take i.toNat).length<=l.length:=zgc ..;have a:(l.drop i.toNat).length<=l.length:=by rw[zbc];omega
  rw[ae ⟨h0,h1⟩,ae (by omega),ae (by rw[zcm];omega),ae ⟨h0,h1⟩,ae (by rw[zar,zcm];omega)]
 by_cases h:i<(l.length)/\mr (nth l i.toNat) x=true
 .rw[zab h,zab (by simp_all),ae ⟨by omega,by omega⟩]
 grind
def ZJ l x(hl:l.length<=100000):wj l x=some (vr mr x l):=by
 refine Ik l x mr hl λi h0 h1=>?_
 unfold zU;rw[ae (λk=>⟨h0,by grind⟩)];have H:qb l x i=some ((l.take i.toNat++[x])++l.drop i.toNat):=by
  unfold qb;have e:(l.take i.toNat).length<=l.length:=zgc ..;have a:(l.drop i.toNat).length<=l.length:=by rw[zbc];omega
  simp only[zcs,zdu];rw[ae ⟨h0,h1⟩,ae (by omega),ae (by rw[zcm];omega),ae ⟨h0,h1⟩,ae (by rw[zar,zcm];omega)]
 by_cases h:i<(l.length)/\mr (nth l i.toNat) x=true
 .rw[zab h,zab (by simp_all),ae ⟨by omega,by omega⟩]
 grind
def Jo(x:LQ uA)(l:LQ (LQ uA)):= l.filter (· != x)
def ON{step} l x(hl:l.length<=100000)
  (h:∀o i,0<=i->i<=l.length->o.length<=i->step (o,i)=if i<(l.length:Int)then some (.inl (if nth l i.toNat != x then o++[nth l i.toNat]else o,i+1))else some (.inr o)):loop step ([],0)=some (Jo x l):=by
 have:=bG (step:=step) l (λs=>s.2) (λs t=>some (s.1++Jo x t)) (λs t=>0<=s.2/\s.2<=(l.length)/\(s.1.length)<=s.2) (by omega) ?_ ?_ (s:=([],0)) rfl ⟨by simp,by simp,by simp⟩
 .rw[this];simp
 .rintro⟨o,i⟩ ⟨h1,h2,h3⟩ h4;refine⟨o,?_,?_⟩
  .rw[h o i h1 h2 h3,zaa (by omega)]
  .simp[Jo]
 .rintro⟨o,i⟩ a t ⟨h1,h2,h3⟩ h4 H b c;refine .inr ⟨(if(nth l i.toNat != x)=true then o++[nth l i.toNat]else o,i+1),?_,⟨by omega,by omega,?_⟩,rfl,?_⟩
  .rw[h o i h1 h2 h3,zab H]
  .grind
  .rw[b];unfold Jo;rw[zby];split<;>simp
def OO l x(hl:l.length<=100000):kM l x=some (Jo x l):=by
 refine ON l x hl λo i h0 h1 h2=>?_
 unfold qy;by_cases hi:i<(l.length)
 .rw[zab (by simp_all),ae ⟨h0,hi⟩];split
  .rw[ae (by grind),ae ⟨by omega,by omega⟩]
  .rw[ae ⟨by omega,by omega⟩]
 grind
def Kd l x(hl:l.length<=100000):qc l x=some (Jo x l):=by
 refine ON l x hl λo i h0 h1 h2=>?_
 unfold u0;by_cases hi:i<(l.length)
 .rw[zab (by simp_all),ae ⟨h0,hi⟩];split
  .rw[ae ⟨h0,hi⟩,ae (by grind),ae ⟨by omega,by omega⟩]
  .rw[ae ⟨by omega,by omega⟩]
 grind
def TM x(l):(Jo x l).length<=l.length:=List.length_filter_le ..
abbrev W7:=LQ Int×LQ Int×LQ (Int×aj)×LQ (Int×Sub)×LQ (Int×Bool)×LQ (LQ uA×Int)×LQ (Int×Int)
abbrev Ab:Sub:=⟨0,0,0,[],[],[],false,false⟩
section maps
variable {κ α:Type}[BEq κ][LawfulBEq κ]
def lH p(l:LQ (κ×α))(k):ak (p::l) k=if k==p.1 then some p.2 else ak l k:=by
 unfold ak;split<;>simp_all
def Il p(l:LQ (κ×α))(k):dL (p::l) k=if k==p.1 then some 0 else(dL l k).map (·+1):=by
 unfold dL;rw[List.findIdx?_cons]
def Es p l(k:κ)(v:α):cQ (p::l) k v=if k==p.1 then(k,v)::l else p::cQ l k v:=by
 unfold cQ;rw[Il]
 grind
def yw p(l:LQ (κ×α))(k):eG (p::l) k=if k==p.1 then l else p::eG l k:=by
 unfold eG;rw[Il]
 grind
def eC k v(k'):∀(l:LQ (κ×α)),ak (cQ l k v) k'=if k'==k then some v else ak l k'
 | []=>by
  show ak [(k,v)] k'=_;rw[lH]
 | p::l=>by
  have i:=eC k v k' l;rw[Es];by_cases h:(k==p.1)=true
  .have e:=eq_of_beq h;rw[zab h,lH,lH]
   grind
  .rw[zaa h,lH,lH]
   grind
def Ke k v(z):∀(l:LQ (κ×α)),z∈(cQ l k v).map (·.1)↔z=k∨z∈l.map (·.1)
 | []=>by simp[cQ,dL]
 | p::l=>by
  rw[Es];split
  .simp_all
  .rw[zbb,zao,Ke k v z l,zbb]
   grind
def wI k(v):∀{l:LQ (κ×α)},(l.map (·.1)).Nodup->((cQ l k v).map (·.1)).Nodup
 | [],_=>by simp[cQ,dL]
 | p::l,h=>by
  rw[zbb,zbz]at h;rw[Es];split
  .simp_all
  .rw[zbb,zbz];refine⟨λH=>?_,wI k v h.2⟩;rcases(Ke k v p.1 l).1 H with h1|h1
   .simp_all
   simp_all
def Im k(z):∀(l:LQ (κ×α)),z∈(eG l k).map (·.1)->z∈l.map (·.1)
 | [],h=>by simp[eG,dL]at h
 | p::l,h=>by
  rw[yw]at h;split at h
  .simp_all
  .rw[zbb,zao]at h ⊢;exact h.imp id (Im k z l)
def CX(k):∀{l:LQ (κ×α)},(l.map (·.1)).Nodup->((eG l k).map (·.1)).Nodup
 | [],_=>by simp[eG,dL]
 | p::l,h=>by
  rw[zbb,zbz]at h;rw[yw];split
  .exact h.2
  .rw[zbb,zbz];exact⟨λH=>h.1 (Im k _ l H),CX k h.2⟩
def rK(k k'):∀{l:LQ (κ×α)},(l.map (·.1)).Nodup->ak (eG l k) k'=if k'==k then none else ak l k'
 | [],_=>by
  have:eG ([]:LQ (κ×α)) k=[]:=rfl;rw[this];unfold ak;simp
 | p::l,h=>by
  rw[zbb,zbz]at h;rw[yw];by_cases e:(k==p.1)=true
  .have e':=eq_of_beq e;rw[zab e];by_cases h2:(k'==k)=true
   .rw[zab h2,Gx];rw[eq_of_beq h2,e'];exact h.1
   .rw[zaa h2,lH,←e',zaa h2]
  .rw[zaa e,lH,lH,rK k k' h.2]
   grind
end maps
def apO(e:Event)(w:W7):LX W7:=eQ e w.1 w.2.1 w.2.2.1 w.2.2.2.1 w.2.2.2.2.1 w.2.2.2.2.2.1 w.2.2.2.2.2.2
def TN(s:Sub)(e:Event):=
 if e.kind=5 then { s with numbers:=vr mr e.number s.numbers }
 else if e.kind=6 then { s with numbers:=Jo e.number s.numbers }
 else if e.kind=7 then { s with uX:=e.name }
 else if e.kind=8 then { s with bD:=vr mr e.name s.bD }
 else if e.kind=9 then { s with bD:=Jo e.name s.bD }
 else if e.kind=10 then { s with br:=true }
 else if e.kind=11 then { s with br:=false }
 else if e.kind=12 then { s with family:=true }
 else if e.kind=13 then { s with family:=false }
 else s
def Bb(e:Event):Sub:=⟨e.sub,e.ah,e.at_,e.name,[],[],false,false⟩
def ZK(e:Event)(w:W7):= if e.kind=3/\(ak w.2.2.2.2.1 e.sub).getD false=false then vr Jn e.sub w.2.1 else w.2.1
def evF(e:Event)(w:W7):= if e.kind=3 then cQ w.2.2.2.2.1 e.sub true else w.2.2.2.2.1
def Vs(e:Event)(w:W7):=
 if e.kind=3 then cQ w.2.2.2.1 e.sub (Bb e)
 else if e.kind=4 then eG w.2.2.2.1 e.sub
 else if e.kind=1∨e.kind=2∨e.kind=14∨e.kind=15 then w.2.2.2.1
 else match ak w.2.2.2.1 e.sub with
  | some s=>cQ w.2.2.2.1 e.sub (TN s e)
  | none=>w.2.2.2.1
structure WB(n:Nat)(w:W7):Prop where
 opened:w.1.length<=n
 added:w.2.1.length<=n
 nums:∀k s,ak w.2.2.2.1 k=some s->s.numbers.length<=n/\s.bD.length<=n
 live:∀k,-(n:Int)<=(ak w.2.2.2.2.2.2 k).getD 0/\(ak w.2.2.2.2.2.2 k).getD 0<=(n:Int)
 keys:(w.2.2.2.1.map (·.1)).Nodup
def WB.up{n w}(h:WB n w):WB (n+1) w:=⟨by have:=h.opened;omega,by have:=h.added;omega,λk s hs=>by have:=h.nums k s hs;omega,λk=>by have:=h.live k;omega,h.keys⟩
def Vt s e(a b) c d f o l(h1:s.numbers.length<=100000)(h2:s.bD.length<=100000):
  ∃o',fA s e a b c d f o l=some (TN s e,o'):=by
 unfold fA TN;by_cases k5:e.kind=5
 .rw[OM _ _ h1];simp_all
 rw[zaa (by simp_all)];by_cases k6:e.kind=6
 .rw[OO _ _ h1];simp_all
 rw[zaa (by simp_all)];by_cases k7:e.kind=7
 .rw[zab (by simp_all),zab k7];simp_all
 rw[zaa (by simp_all),zaa k7];by_cases i:e.kind=8
 .rw[zab (by simp_all),OM _ _ h2,zab i];simp_all
 rw[zaa (by simp_all),zaa i];by_cases j:e.kind=9
 .rw[zab (by simp_all),OO _ _ h2,zab j];simp_all
 rw[zaa (by simp_all),zaa j];by_cases k:e.kind=10
 .rw[zab (by simp_all),zab k];simp_all
 rw[zaa (by simp_all),zaa k];by_cases h:e.kind=11
 .rw[zab (by simp_all),zab h];simp_all
 rw[zaa (by simp_all),zaa h];by_cases H:e.kind=12
 .rw[zab (by simp_all),zab H];simp_all
 rw[zaa (by simp_all),zaa H];by_cases g:e.kind=13
 .rw[zab (by simp_all),zab g];simp_all
 simp_all
def TO s(e):(TN s e).numbers.length<=s.numbers.length+1/\(TN s e).bD.length<=s.bD.length+1:=by
 unfold TN;have a:=CW mr e.number s.numbers;have b:=CW mr e.name s.bD;have c:=TM e.number s.numbers;have d:=TM e.name s.bD
 grind
theorem Mq n e w(h:WB n w)(hn:n<=10000):∃w',apO e w=some w'/\WB (n+1) w'/\w'.2.1=ZK e w/\w'.2.2.2.1=Vs e w/\w'.2.2.2.2.1=evF e w:=by
 obtain⟨op,g,m,H,ev,q,l⟩:=w;have h1:=h.opened;have h2:=h.added;have h3:=h.nums;have h4:=h.live;have d:=h.keys;simp only at h1 h2 h3 h4 d;have up:=h.up;unfold apO ZK Vs evF;have W:=up.opened;have M:=up.added;have j:=up.nums;have f:=up.live;unfold eQ;by_cases D:e.kind=1
 .have u:¬e.kind=3:=by omega
  have v:¬e.kind=4:=by omega
  rw[zab (by simp_all)];simp only[u,v,D,false_and,zbq,true_or,zce];split
  .rw[OL _ _ (by omega),zac];unfold dR;exact⟨_,rfl,⟨by simp only[CW];omega,M,j,f,d⟩,rfl,rfl,rfl⟩
  .unfold dR;exact⟨_,rfl,⟨W,M,j,f,d⟩,rfl,rfl,rfl⟩
 rw[zaa (by simp_all)];by_cases k2:e.kind=2
 .have u:¬e.kind=3:=by omega
  have v:¬e.kind=4:=by omega
  rw[zab (by simp_all)];simp only[u,v,k2,false_and,zbq,true_or,or_true,zce];exact⟨_,rfl,⟨W,M,j,f,d⟩,rfl,rfl,rfl⟩
 rw[zaa (by simp_all)];by_cases k3:e.kind=3
 .rw[zab (by simp_all)];simp only[k3,true_and,zce];have hl:cR ((ak l e.ah).getD 0+1):=by have:=h4 e.ah;omega
  have c:∀k,-((n+1:Nat):Int)<=(ak (cQ l e.ah ((ak l e.ah).getD 0+1)) k).getD 0/\(ak (cQ l e.ah ((ak l e.ah).getD 0+1)) k).getD 0<=((n+1:Nat):Int):=λk=>by
   rw[eC]
   grind
  have O:∀k s,ak (cQ H e.sub (⟨e.sub,e.ah,e.at_,e.name,([]:List (List uA)),([]:List (List uA)),false,false⟩:Sub)) k=some s->s.numbers.length<=n+1/\s.bD.length<=n+1:=λk s hs=>by
   rw[eC]at hs
   grind
  by_cases J:(ak ev e.sub).getD false=false
  .rw[zab (by rw[J];rfl),OL _ _ (by omega),zac,zab J];unfold dS;rw[ae hl];exact⟨_,rfl,⟨W,by simp only[CW];omega,O,c,wI _ _ d⟩,rfl,rfl,rfl⟩
  .rw[zaa (by simp_all),zaa J];unfold dS;rw[ae hl];exact⟨_,rfl,⟨W,M,O,c,wI _ _ d⟩,rfl,rfl,rfl⟩
 rw[zaa (by simp_all)];simp only[k3,false_and,zbq];by_cases k4:e.kind=4
 .rw[zab (by simp_all)];simp only[k4,zce];have V:((ak H e.sub).getD Ab).numbers.length<=n:=by
   cases hs:ak H e.sub with
   | none=>grind
   | some s=>grind
  have key:∀o,∃o',loop (λs:Int×List ((List uA)×Int)=>fb e op g m H ev l s.1 s.2) (0,o)=cr e op g m H ev l o':=λo=>by
   refine⟨((ak H e.sub).getD Ab).numbers.foldl eG o,?_⟩;have E:∀o,∃r,cr e op g m H ev l o=some r:=λo=>by
    unfold cr;have hl:cR ((ak l ((ak H e.sub).getD Ab).ah).getD 0-1):=by have:=h4 ((ak H e.sub).getD Ab).ah;omega
    rw[ae hl];simp_all
   refine bG ((ak H e.sub).getD Ab).numbers (λs=>s.1) (λs t=>cr e op g m H ev l (t.foldl eG s.2)) (λs t=>0<=s.1) (by omega) ?_ ?_ (s:=(0,o)) rfl (by simp)
   .rintro⟨i,o⟩ hi p;simp only at hi p;obtain⟨r,x⟩:=E o;refine⟨r,?_,x⟩;unfold fb;simp_all
   .rintro⟨i,o⟩ a t hi p z A F;simp only at hi p z A F;refine .inr ⟨(i+1,eG o a),?_,by omega,rfl,rfl⟩;unfold fb;simp only;rw[zab (by simp_all),ae ⟨p,z⟩,ae ⟨by omega,by omega⟩,A]
  obtain⟨o',y⟩:=key q;rw[y];unfold cr;have hl:cR ((ak l ((ak H e.sub).getD Ab).ah).getD 0-1):=by have:=h4 ((ak H e.sub).getD Ab).ah;omega
  rw[ae hl];refine⟨_,rfl,⟨W,M,λk s hs=>?_,λk=>?_,CX _ d⟩,rfl,rfl,rfl⟩
  .simp only at hs;rw[rK _ _ d]at hs
   grind
  .simp only;rw[eC]
   grind
 rw[zaa (by simp_all)];simp only[k4,zbq];have G:∀b:Bool,(b=true->e.kind=14∨e.kind=15)->(b=false->¬(e.kind=14∨e.kind=15))->∃w',dU e op g m H ev q l b=some w'/\WB (n+1) w'/\w'.2.1=g/\w'.2.2.2.1=(if e.kind=1∨e.kind=2∨e.kind=14∨e.kind=15 then H else match ak H e.sub with|some s=>cQ H e.sub (TN s e)|none=>H)/\w'.2.2.2.2.1=ev:=λb I K=>by
  unfold dU;cases b with
  | true=>rw[zab rfl,zab (.inr (.inr (I rfl)))];simp_all
  | false =>
   have x:¬(e.kind=1∨e.kind=2∨e.kind=14∨e.kind=15):=by have:=K rfl;omega
   simp only[x,zbq,zay];cases hs:ak H e.sub with
   | none=>simp_all
   | some s =>
    simp only[Option.isSome_some,zce,zdr];have N:=h3 _ _ hs;obtain⟨o',y⟩:=Vt s e op g m H ev q l (by omega) (by omega);rw[y,zac];have P:=TO s e;refine⟨_,rfl,⟨W,M,λk Q B=>?_,f,wI _ _ d⟩,rfl,rfl,rfl⟩;simp only at B;rw[eC]at B
    grind
 split
 .simp_all
 .rename_i L;have C:¬e.kind=14:=by simp_all
  refine G _ (λk=>.inr (by grind)) (λk=>?_);have:¬e.kind=15:=by grind
  omega
def w0:W7:=([],[],[],[],[],[],[])
def wb0:WB 0 w0:=⟨by simp[w0],by simp[w0],λk s h=>by simp[w0,ak]at h,λk=>by simp[w0,ak],by simp[w0]⟩
def OQ(t:Int):List Event->W7->Option W7
 | [],w=>some w
 | e::l,w=>if e.at_<=t then(apO e w).bind (OQ t l)else OQ t l w
def p_upto bZ t n w(h:WB n w)(hl:n+bZ.length<=10000):
  iw bZ t w.1 w.2.1 w.2.2.1 w.2.2.2.1 w.2.2.2.2.1 w.2.2.2.2.2.1 w.2.2.2.2.2.2=OQ t bZ w:=by
 refine bG bZ (λs:Int×W7=>s.1) (λs r=>OQ t r s.2) (λs r=>0<=s.1/\∃n,WB n s.2/\n+r.length<=10000) (by omega) ?_ ?_ rfl ⟨by simp,n,h,hl⟩
 .rintro⟨i,w⟩ ⟨h1,_⟩ h2;refine⟨w,?_,rfl⟩;unfold lA;rw[zaa (by simp_all)]
 .rintro⟨i,w⟩ e r ⟨h1,n,H,h2⟩ h3 h4 b f;rw[zap]at h2;unfold lA;rw[zab (by simp_all),ae ⟨h3,h4⟩,b];by_cases ha:e.at_<=t
  .obtain⟨w',a,c,_⟩:=Mq n e w H (by omega);have d:gR e w.1 w.2.1 w.2.2.1 w.2.2.2.1 w.2.2.2.2.1 w.2.2.2.2.2.1 w.2.2.2.2.2.2=some w':=by
    unfold gR;have:eQ e w.1 w.2.1 w.2.2.1 w.2.2.2.1 w.2.2.2.2.1 w.2.2.2.2.2.1 w.2.2.2.2.2.2=some w':=a;rw[this];rfl
   rw[zab (by simp_all),d,zac,ae ⟨by omega,by omega⟩];refine .inr ⟨(i+1,w'),rfl,⟨by omega,n+1,c,by omega⟩,rfl,?_⟩;rw[OQ,zab ha,a];rfl
  .rw[zaa (by simp_all),ae ⟨by omega,by omega⟩];refine .inr ⟨(i+1,w),rfl,⟨by omega,n,H,by omega⟩,rfl,?_⟩;simp only;rw[OQ,zaa ha]
def Mr(t):∀bZ n w,WB n w->n+bZ.length<=10000->∃w',OQ t bZ w=some w'/\WB (n+bZ.length) w'
 | [],n,w,h,_=>⟨w,rfl,h⟩
 | e::l,n,w,h,hl=>by
  rw[zap]at hl;unfold OQ;split
  .obtain⟨w',a,i,_⟩:=Mq n e w h (by omega);obtain⟨H,h1,h2⟩:=Mr t l (n+1) w' i (by omega)
   grind
  .obtain⟨H,h1,h2⟩:=Mr t l (n+1) w h.up (by omega)
   grind
def pj(w:W7):= w.2.1.filterMap (ak w.2.2.2.1)
def ofF(h:List (Int×Sub)):List Int->List (Int×List Int)->List (Int×List Int)
 | [],o=>o
 | k::t,o=>match ak h k with
  | none=>ofF h t o
  | some s=>ofF h t (cQ o s.ah ((ak o s.ah).getD []++[k]))
def TP op ac L o(hl:op.length<=10000):∃a,bR op ac L o=some ⟨a,L⟩:=by
 unfold bR
 let f:Int->aj:=λk=>⟨((ak ac k).getD (⟨0,0,0,false,false,([])⟩)).id,((ak ac k).getD (⟨0,0,0,false,false,([])⟩)).since,((ak ac k).getD (⟨0,0,0,false,false,([])⟩)).anchor,((ak ac k).getD (⟨0,0,0,false,false,([])⟩)).jN,((ak ac k).getD (⟨0,0,0,false,false,([])⟩)).closed,(ak o k).getD ([])⟩
 have:=bG (step:=λs:Int×LQ aj=>eh op ac L o s.1 s.2) op (λs=>s.1) (λs r=>some (⟨s.2++r.map f,L⟩)) (λs r=>0<=s.1/\(s.2.length)<=s.1/\s.1<=(op.length)) (by omega) ?_ ?_ (s:=(0,[])) rfl (by simp)
 .rw[this];simp
 .rintro⟨i,l⟩ ⟨h1,h2,h3⟩ h4;refine⟨⟨l,L⟩,?_,by simp⟩;unfold eh;rw[zaa (by simp_all)]
 .rintro⟨i,l⟩ k r ⟨h1,h2,h3⟩ h4 h H b;refine .inr ⟨(i+1,l++[f k]),?_,⟨by omega,by simp_all,by omega⟩,rfl,by simp⟩;unfold eh;rw[zab (by simp_all),ae ⟨h4,h⟩,ae (by grind),ae ⟨by omega,by omega⟩,H]
def OR n w(h:WB n w)(hn:n<=10000):∃a,eR w.1 w.2.1 w.2.2.1 w.2.2.2.1 w.2.2.2.2.1 w.2.2.2.2.2.1 w.2.2.2.2.2.2=some ⟨a,pj w⟩:=by
 obtain⟨op,b,c,H,ev,q,t⟩:=w;have h1:=h.opened;have h2:=h.added;simp at h1 h2;unfold eR pj;obtain⟨a,ha⟩:=TP op c (b.filterMap (ak H)) (ofF H b []) (by omega);have:=bG (step:=λs:Int×LQ Sub×LQ (Int×LQ Int)=>ei op b c H s.1 s.2.1 s.2.2) b (λs=>s.1) (λs r=>bR op c (s.2.1++r.filterMap (ak H)) (ofF H r s.2.2))
  (λs r=>0<=s.1/\(s.2.1.length)<=s.1/\s.1<=(b.length)/\∀k,(((ak s.2.2 k).getD []).length)<=s.1) (by omega) ?_ ?_ (s:=(0,[],[])) rfl ⟨by simp,by simp,by simp,λk=>by simp[ak]⟩
 .simp_all
 .rintro⟨i,l,o⟩ ⟨h3,h4,g,d⟩ e;obtain⟨a,ha⟩:=TP op c l o (by omega);refine⟨⟨a,l⟩,?_,by simpa[ofF] using ha⟩;unfold ei;rw[zaa (by simp_all),ha];rfl
 .rintro⟨i,l,o⟩ k r ⟨h3,h4,g,d⟩ e j m f;simp only at h3 h4 g d e j m f;unfold ei;simp only;rw[zab (by simp_all),ae ⟨e,j⟩,m];cases hs:ak H k with
  | none =>
   refine .inr ⟨(i+1,l,o),?_,⟨by omega,by grind,by omega,λk=>by have:=d k;grind⟩,rfl,?_⟩
   .rw[zab (by simp),ae ⟨by omega,by omega⟩]
   .simp only[zff,hs,ofF]
  | some s =>
   have p:=d s.ah;refine .inr ⟨(i+1,l++[s],cQ o s.ah ((ak o s.ah).getD []++[k])),?_,⟨by omega,by simp_all,by omega,λk'=>?_⟩,rfl,?_⟩
   .rw[zaa (by simp)];simp only[zdr];rw[ae (by grind),ae (by grind),ae ⟨by omega,by omega⟩]
   .simp only;rw[eC]
    grind
   .simp only[zff,hs,ofF,zas,zeh]
def p_State bZ t(hl:bZ.length<=5000):∃w a,OQ t bZ w0=some w/\WB bZ.length w/\dO bZ t=some ⟨a,pj w⟩:=by
 obtain⟨w,h1,h2⟩:=Mr t bZ 0 w0 wb0 (by omega);rw[zbh]at h2;obtain⟨a,ha⟩:=OR _ w h2 (by omega);refine⟨w,a,h1,h2,?_⟩;unfold dO pK qT;have:=p_upto bZ t 0 w0 wb0 (by omega);simp only[zac];rw[show iw bZ t ([]) ([]) ([]) ([]) ([]) ([]) ([])=OQ t bZ w0 from this,h1,zac,ha];rfl
def owF:List Sub->List (List uA×Int)->List (List uA×Int)
 | [],o=>o
 | s::l,o=>owF l (s.numbers.foldl (λo n=>cQ o n s.id) o)
def ZL bZ t c(h:dO bZ t=some c)(hl:c.aV.length<=10000)(hn:∀s,s∈c.aV->s.numbers.length<=10000):jZ bZ t=some (owF c.aV []):=by
 unfold jZ;rw[h];refine bG (step:=λs:Int×LQ ((LQ uA)×Int)=>gV c s.1 s.2) c.aV (λs=>s.1) (λs r=>some (owF r s.2)) (λs r=>0<=s.1/\∀x,x∈r->x.numbers.length<=10000) (by omega) ?_ ?_ rfl ⟨by simp,hn⟩
 .rintro⟨i,o⟩ ⟨h1,_⟩ h2;refine⟨o,?_,rfl⟩;unfold gV;rw[zaa (by simp_all)]
 .rintro⟨i,o⟩ x r ⟨h1,h2⟩ h3 h4 b g;refine .inr ⟨(i+1,x.numbers.foldl (λo n=>cQ o n x.id) o),?_,⟨by omega,λy hy=>h2 y (zak _ hy)⟩,rfl,rfl⟩;unfold gV;rw[zab (by simp_all),ae ⟨h3,h4⟩];have hx:=h2 x (zal ..);refine bG (step:=λs:Int×LQ ((LQ uA)×Int)=>gU c i s.1 s.2) x.numbers (λs=>s.1) (λs r=>some (.inl (i+1,r.foldl (λo n=>cQ o n x.id) s.2))) (λs r=>0<=s.1) (by omega) ?_ ?_ rfl (by simp)
  .rintro⟨j,o⟩ d a;refine⟨_,?_,rfl⟩;unfold gU;rw[zaa (by simp_all),ae ⟨by omega,by omega⟩];rfl
  .rintro⟨j,o⟩ n q d a e H f;refine .inr ⟨(j+1,cQ o n x.id),?_,by omega,rfl,rfl⟩;unfold gU;rw[b,zab (by simp_all),ae ⟨a,e⟩,ae ⟨by omega,by omega⟩,H]
def OS(id:Int):List Sub->Sub×Bool
 | []=>(Ab,false)
 | s::l=>if s.id=id then(s,true)else OS id l
def p_Sub bZ(id t) c(h:dO bZ t=some c)(hl:c.aV.length<=10000):oS bZ id t=some (OS id c.aV):=by
 unfold oS;rw[h];refine bG (step:=λs:Int=>kN id c s) c.aV (λs=>s) (λs r=>some (OS id r)) (λs r=>0<=s) (by omega) ?_ ?_ rfl (by simp)
 .rintro i h1 h2;refine⟨_,?_,rfl⟩;unfold kN;rw[zaa (by simp_all)];rfl
 .rintro i x r h1 h2 h3 h4 H;unfold kN;rw[zab (by simp_all),ae ⟨h2,h3⟩,h4];by_cases hx:x.id=id
  .rw[zab (by simp_all)];exact .inl ⟨_,rfl,by rw[OS,zab hx]⟩
  .rw[zaa (by simp_all),ae ⟨by omega,by omega⟩];exact .inr ⟨_,rfl,by omega,rfl,by rw[OS,zaa hx]⟩
def pT(r:aa):= if r.bz then r.b else r.a
def Ms(L:List Sub)(n:List uA):Sub×Bool:=match ak (owF L []) n with
 | none=>(Ab,false)
 | some id=>OS id L
def p_owner bZ r c(h:dO bZ r.start=some c)(hl:c.aV.length<=10000)(hn:∀s,s∈c.aV->s.numbers.length<=10000):
  iY ⟨ ⟨r⟩,bZ⟩=some (Ms c.aV (pT r)):=by
 unfold iY;have H:gw (⟨r⟩)=some (pT r):=by
  unfold gw pT;split<;>rfl
 rw[H,zac];unfold oR Ms;rw[ZL bZ _ c h hl hn,zac,zac];cases ha:ak (owF c.aV []) (pT r)with
 | none=>simp
 | some id =>
  simp;rw[p_Sub bZ id _ c h hl,zac]
def Kg:bC:=⟨0,0,0,0,[],[],0,0,0,false,0,0⟩
def Rr(L:LQ Sub)(r:aa)(id:Int):=
 if cL r≠0 then(Kg,cL r)
 else if r.part≠0 then(Kg,8)
 else if(Ms L (pT r)).2=false then(Kg,11)
 else if(Ms L (pT r)).1.br=true/\r.bz=false then(Kg,16)
 else(⟨id,r.kind,(Ms L (pT r)).1.ah,(Ms L (pT r)).1.id,r.a,r.b,r.start,r.aX,r.cN,r.bz,r.source,r.aJ⟩,0)
def p_Usage bZ r id c(h:dO bZ r.start=some c)(hl:c.aV.length<=10000)(hn:∀s,s∈c.aV->s.numbers.length<=10000)(hs:Sm r):
  jr bZ r id=some (Rr c.aV r id):=by
 unfold jr Rr;rw[Md r hs,zac,p_owner bZ r c h hl hn];by_cases h1:cL r=0
 .rw[zaa (show ¬((cL r != 0)=true) by simp[h1]),zaa (show ¬(cL r≠0)from λk=>k h1)];by_cases h2:r.part=0
  .rw[zaa (show ¬((r.part != 0)=true) by simp[h2]),zaa (show ¬(r.part≠0)from λk=>k h2),zac];generalize Ms c.aV (pT r)=y;obtain⟨s,ok⟩:=y;cases ok with
   | false=>simp[Kg]
   | true =>
    cases H:s.br<;>cases hi:r.bz<;>simp[Kg,kq,hi]
  .rw[zab (show(r.part != 0)=true by simp_all),zab (show r.part≠0 from h2)];rfl
 .rw[zab (show(cL r != 0)=true by simp_all),zab (show cL r≠0 from h1)];rfl
abbrev Bk:=aA
def vt{α:Type}(p:α->Bool):List α->Int->Int
 | [],_=>-1
 | a::l,i=>if p a then i else vt p l (i+1)
def vv{α}[Inhabited α](p):∀(l:LQ α) i,0<=i->(vt p l i=-1/\∀a,a∈l->p a=false)∨i<=vt p l i/\vt p l i<i+l.length/\p (nth l (vt p l i-i).toNat)=true
 | [],i,_=>.inl ⟨rfl,λa h=>by simp at h⟩
 | a::l,i,hi=>by
  unfold vt;by_cases h:p a=true
  .rw[zab h];refine .inr ⟨by omega,by rw[zap];omega,?_⟩;rw[show(i-i).toNat=0 from by omega];exact h
  .rw[zaa h];rcases vv p l (i+1) (by omega)with⟨h1,h2⟩|⟨h1,h2,h3⟩
   .simp_all
   .refine .inr ⟨by omega,by rw[zap];omega,?_⟩;rw[show(vt p l (i+1) - i).toNat=(vt p l (i+1) - (i+1)).toNat+1 from by omega];exact h3
def Kh(b:Bk) n(hl:b.aH.length<=100000):qa b n=some (vt (λa=>a.id==n) b.aH 0):=by
 refine bG b.aH (λs=>s) (λs r=>some (vt (λa=>a.id==n) r s)) (λs r=>0<=s) (by omega) ?_ ?_ rfl (by simp)
 .rintro i h1 h2;refine⟨_,?_,rfl⟩;unfold pD;rw[zaa (by simp_all)];rfl
 .rintro i x r h1 h2 h3 h4 h;unfold pD;rw[zab (by simp_all),ae ⟨h2,h3⟩,h4];by_cases hx:(x.id==n)=true
  .rw[zab hx];exact .inl ⟨_,rfl,by rw[vt,zab hx]⟩
  .rw[zaa hx,ae ⟨by omega,by omega⟩];exact .inr ⟨_,rfl,by omega,rfl,by rw[vt,zaa hx]⟩
def kx(b:Bk)(n:Int):= vt (λa:Sub=>a.id==n) b.aV 0
def Rt(b:Bk) n(hl:b.aV.length<=100000):uZ b n=some (kx b n):=by
 refine bG b.aV (λs=>s) (λs r=>some (vt (λa:Sub=>a.id==n) r s)) (λs r=>0<=s) (by omega) ?_ ?_ rfl (by simp)
 .rintro i h1 h2;refine⟨_,?_,rfl⟩;unfold wg;rw[zaa (by simp_all)];rfl
 .rintro i x r h1 h2 h3 h4 h;unfold wg;rw[zab (by simp_all),ae ⟨h2,h3⟩,h4];by_cases hx:(x.id==n)=true
  .rw[zab hx];exact .inl ⟨_,rfl,by rw[vt,zab hx]⟩
  .rw[zaa hx,ae ⟨by omega,by omega⟩];exact .inr ⟨_,rfl,by omega,rfl,by rw[vt,zaa hx]⟩
def TQ(b:Bk) n(hl:b.ended.length<=100000):tC b n=some (decide (n∈b.ended)):=by
 refine bG b.ended (λs=>s) (λs r=>some (decide (n∈r))) (λs r=>0<=s) (by omega) ?_ ?_ rfl (by simp)
 .rintro i h1 h2;unfold sD;rw[zaa (by simp_all)];simp
 .rintro i x r h1 h2 h3 h4 h;unfold sD;rw[zab (by simp_all),ae ⟨h2,h3⟩];by_cases hx:x=n
  .simp_all
  .rw[ae ⟨by omega,by omega⟩]
   grind
def Ru l n(hl:l.length<=100000):rV l n=some (decide (n∈l)):=by
 refine bG l (λs=>s) (λs r=>some (decide (n∈r))) (λs r=>0<=s) (by omega) ?_ ?_ rfl (by simp)
 .rintro i h1 h2;unfold wi;rw[zaa (by simp_all)];simp
 .rintro i x r h1 h2 h3 h4 h;unfold wi;rw[zab (by simp_all),ae ⟨h2,h3⟩];by_cases hx:x=n
  .simp_all
  .rw[ae ⟨by omega,by omega⟩]
   grind
structure BB(n:Nat)(b:Bk):Prop where
 Vu:b.aH.length<=n
 aV:b.aV.length<=n
 ended:b.ended.length<=n
 nums:∀s,s∈b.aV->s.numbers.length<=n/\s.bD.length<=n
def BB.up{n b}(h:BB n b):BB (n+1) b:=⟨by have:=h.Vu;omega,by have:=h.aV;omega,by have:=h.ended;omega,λs hs=>by have:=h.nums s hs;omega⟩
def p_taken b x n(h:BB n b)(hn:n<=10000):xJ b x=some (b.aV.any λs=>decide (x∈s.numbers)):=by
 have hl:=h.aV;refine bG b.aV (λs=>s) (λs r=>some (r.any λs=>decide (x∈s.numbers))) (λs r=>0<=s/\∀y,y∈r->y.numbers.length<=n) (by omega) ?_ ?_ rfl ⟨by simp,λy hy=>(h.nums y hy).1⟩
 .rintro i ⟨h1,_⟩ h2;unfold sE;rw[zaa (by simp_all)];simp
 .rintro i y r ⟨h1,h2⟩ h3 h4 H a;have hy:=h2 y (zal ..);unfold sE;rw[zab (by simp_all),ae ⟨h3,h4⟩,H,Ru _ _ (by omega),zac];by_cases hx:x∈y.numbers
  .simp_all
  .rw[ae ⟨by omega,by omega⟩]
   grind
def p_busy b k n(h:BB n b)(hn:n<=10000):∃y,AA b k=some y:=by
 have hl:=h.aV;have he:=h.ended;refine⟨_,bG b.aV (λs=>s) (λs r=>some (r.any λs=>(s.ah==k) && !decide (s.id∈b.ended))) (λs r=>0<=s) (by omega) ?_ ?_ rfl (by simp)⟩
 .rintro i h1 h2;unfold ud;rw[zaa (by simp_all)];simp
 .rintro i y r h1 h3 h4 a c;unfold ud;rw[zab (by simp_all),ae ⟨h3,h4⟩,ae (λ_=>⟨h3,h4⟩),a,TQ _ _ (by omega)];by_cases ha:(y.ah==k)=true
  .simp only[ha,fH,zce,zac,zei];by_cases hx:y.id∈b.ended
   .rw[zaa (by simp_all),ae ⟨by omega,by omega⟩]
    grind
   simp_all
  .have H:(y.ah==k)=false:=by simp_all
   simp only[H,fH,zay,zbq,zac,Bool.false_and];rw[ae ⟨by omega,by omega⟩]
   grind
def mZ(k:Int):=
 if k=1 then[true,false,false,true,true]else if k=2 then[true,false,false,false,false]else if k=3 then[true,true,false,true,false]
 else if k=5∨k=6 then[false,true,true,false,false]else if k=7∨k=8∨k=9 then[false,true,false,true,false]else if k=14∨k=15 then[true,false,false,false,true]else[false,true,false,false,false]
def ZM(k):sA k=some (mZ k):=by
 unfold sA mZ;have h3:∀b:Bool,(b=true->k=14∨k=15)->(b=false->¬(k=14∨k=15))->mP b=some (if k=14∨k=15 then[true,false,false,false,true]else[false,true,false,false,false]):=λb h1 h2=>by
  unfold mP
  grind
 have h2:∀b:Bool,(b=true->k=7∨k=8∨k=9)->(b=false->¬(k=7∨k=8∨k=9))->kj k b=some (if k=7∨k=8∨k=9 then[false,true,false,true,false]else if k=14∨k=15 then[true,false,false,false,true]else[false,true,false,false,false]):=λb h1 h2=>by
  unfold kj
  grind
 have h1:∀b:Bool,(b=true->k=5∨k=6)->(b=false->¬(k=5∨k=6))->mQ k b=some (if k=5∨k=6 then[false,true,true,false,false]else if k=7∨k=8∨k=9 then[false,true,false,true,false]else if k=14∨k=15 then[true,false,false,false,true]else[false,true,false,false,false]):=λb h1 I=>by
  unfold mQ
  grind
 grind
def p_Name s(hl:s.length<=9223372036854775807):∃y,wc s=some y:=by
 unfold wc;by_cases h:(decide ((s.length:Int)<1) || decide ((s.length:Int) > 24))=true
 .rw[ae (by simp[h]),ae (by simp[h])];simp_all
 .have h':¬((s.length:Int)<1):=by simp_all
  have hl:s.length<=24:=by grind
  rw[ae (λ_=>⟨by omega,by omega⟩),ae (λ_=>⟨by omega,by omega⟩)];split
  .simp_all
  .refine⟨_,bG s (λi=>i) (λi r=>some (r.all λc=>!((((decide (c<97)) || (decide (c > 122))) && ((decide (c<48)) || (decide (c > 57)))) && (c != 45)))) (λi r=>0<=i) (by omega) ?_ ?_ rfl (by simp)⟩
   .rintro i h1 h2;refine⟨_,?_,rfl⟩;unfold ub;rw[zaa (by simp_all)];simp
   .rintro i c r h1 h2 h3 h4 H;unfold ub;rw[zab (by simp_all),ae ⟨h2,h3⟩,ae (λ_=>⟨h2,h3⟩),ae (λ_=>⟨h2,h3⟩),ae (λ_=>⟨h2,h3⟩),ae (λ_=>⟨h2,h3⟩),h4];split
    .grind
    .rename_i a;rw[ae ⟨by omega,by omega⟩]
     grind
structure Rv(e:Event)(last:Int):Prop where
 kind:1<=e.kind/\e.kind<=15
 at_:last<=e.at_
 sub:¬(e.kind=1∨e.kind=2∨e.kind=14∨e.kind=15)->1<=e.sub/\e.sub<=9999
 num:e.kind=5->e.number≠[]
 acct:e.kind=3->1<=e.ah/\e.ah<=9999
def p_value(e):∃y,tB e=some y:=by
 unfold tB;split
 .simp_all
 .split<;>exact⟨_,rfl⟩
def wJ{α}[Inhabited α] b(x:α):∃y,fH b (some x)=some y/\(b=true->y=x):=⟨_,vi,λh=>by rw[zab h]⟩
def p_form e last(h1:e.name.length<=9223372036854775807)(h2:e.number.length<=9223372036854775807):∃y,we e last=some y/\(y=0->Rv e last):=by
 obtain⟨n,H⟩:=p_Name e.name (by omega);obtain⟨vb,a⟩:=p_value e;unfold we;rw[ZM,H,Vj _ (by omega),a];unfold BZ;simp only[zac];by_cases c1:(decide (e.kind<1) || decide (e.kind > 15))=true
 .rw[zab c1];simp_all
 rw[zaa c1];by_cases j:(decide (e.at_<0) || decide (e.at_>=12622780800))=true
 .rw[zab j];simp_all
 rw[zaa j];by_cases k:decide (e.at_<last)=true
 .rw[zab k];simp_all
 rw[zaa k];have m:1<=e.kind/\e.kind<=15:=by simp_all
 have k2:last<=e.at_:=by simp_all
 split
 .simp_all
 obtain⟨y2,o,q2⟩:=wJ (nth (mZ e.kind) 0) (decide (e.ah>=1) && decide (e.ah<=9999));rw[o,zac];obtain⟨y3,p,q⟩:=wJ ((!((nth (mZ e.kind) 0) && (!y2))) && (nth (mZ e.kind) 1)) (decide (e.sub>=1) && decide (e.sub<=9999));rw[p,zac];by_cases c:((nth (mZ e.kind) 0 && !y2) || (nth (mZ e.kind) 1 && !y3))=true
 .rw[zab c];simp_all
 rw[zaa c];obtain⟨y4,r,u⟩:=wJ (nth (mZ e.kind) 3) n;rw[r,zac];split
 .simp_all
 obtain⟨y5,s,l⟩:=wJ (nth (mZ e.kind) 2) (oV e.number);rw[s,zac];by_cases b:(nth (mZ e.kind) 2 && !y5)=true
 .rw[zab b];simp_all
 rw[zaa b];obtain⟨y6,t,v⟩:=wJ (nth (mZ e.kind) 4) vb;rw[t,zac];have fin:Rv e last:=by
  refine⟨m,k2,λhk=>?_,λhk=>?_,λhk=>?_⟩
  .have h:nth (mZ e.kind) 1=true:=by
    unfold mZ;rw[zaa (by omega),zaa (by omega)];split
    .rfl
    split
    .rfl
    split
    .rfl
    rw[zaa (by omega)];rfl
   have d:(nth (mZ e.kind) 0 && !y2)=false:=by
    simp_all
   rw[d,h]at q c;have f:y3=true:=by cases y3<;>simp_all
   have:=q rfl;rw[f]at this;simp_all
  .have h:nth (mZ e.kind) 2=true:=by
    unfold mZ;rw[zaa (by omega),zaa (by omega),zaa (by omega),zab (.inl hk)];rfl
   rw[h]at b l;have g:y5=true:=by cases y5<;>simp_all
   have hv:=l rfl;rw[g]at hv;intro hn;rw[hn]at hv;simp[oV]at hv
  .have h:nth (mZ e.kind) 0=true:=by
    unfold mZ;simp[hk,nth]
   rw[h]at q2 c;have i:y2=true:=by
    simp_all
   have:=q2 rfl;rw[i]at this
   grind
 split
 .simp_all
 simp_all
def Io(b:Bk)(n:Int):= vt (λa:aj=>a.id==n) b.aH 0
def OT b e n(h:BB n b)(hn:n<=10000):∃y,nh b e=some y/\(y=0->(e.kind=3->kx b e.sub=-1)/\(e.kind≠1->0<=Io b e.ah/\Io b e.ah<b.aH.length)):=by
 have ha:=h.Vu;have hs:=h.aV;obtain⟨H,B⟩:=p_busy b e.ah n h hn;unfold nh;rw[Kh b _ (by omega),zac,Rt b _ (by omega),B];rw[show vt (λa:aj=>a.id==e.ah) b.aH 0=Io b e.ah from rfl];have sp:(Io b e.ah=-1)∨(0<=Io b e.ah/\Io b e.ah<(b.aH.length:Int)):=by
  rcases vv (λa:aj=>a.id==e.ah) b.aH 0 (by omega)with⟨q,_⟩|⟨q1,q2,_⟩
  .exact .inl q
  .exact .inr ⟨q1,by unfold Io;omega⟩
 have s:kx b e.sub=-1∨0<=kx b e.sub:=by
  rcases vv (λa:Sub=>a.id==e.sub) b.aV 0 (by omega)with⟨q,_⟩|⟨q1,q2,_⟩
  .exact .inl q
  .exact .inr q1
 by_cases d:e.kind=1
 .rw[zab (by simp_all)];split
  .simp_all
  simp_all
 rw[zaa (by simp_all)];by_cases k2:Io b e.ah<0
 .rw[zab (by simp_all)];simp_all
 rw[zaa (by simp_all),ae (by omega)];split
 .simp_all
 obtain⟨y2,f,q2⟩:=wJ (e.kind==3) (kx b e.sub);rw[f,zac];by_cases c:((e.kind==3) && decide (y2>=0))=true
 .rw[zab c];simp_all
 obtain⟨y3,k,g⟩:=wJ (e.kind==2) H;rw[k,zac,ae (by omega)]
 grind
def p_ofSub b e n(h:BB n b)(hn:n<=10000):∃y,tD b e=some y/\(y=0->(0<=kx b e.sub/\kx b e.sub<b.aV.length)/\e.sub ∉ b.ended/\(e.kind=5->∀s,s∈b.aV->e.number ∉ s.numbers)):=by
 have hs:=h.aV;have he:=h.ended;unfold tD;rw[Rt b _ (by omega),zac];by_cases c:kx b e.sub<0
 .rw[zab (by simp_all)];simp_all
 rw[zaa (by simp_all),TQ b _ (by omega),zac];by_cases k2:e.sub∈b.ended
 .rw[zab (by simp_all)];simp_all
 rw[zaa (by simp_all)];have H:0<=kx b e.sub/\kx b e.sub<(b.aV.length:Int):=by
  rcases vv (λa:Sub=>a.id==e.sub) b.aV 0 (by omega)with⟨q,_⟩|⟨q1,q2,_⟩
  .unfold kx at c;omega
  .unfold kx;omega
 rw[ae H];have d:=h.nums _ (tQ (l:=b.aV) (k:=(kx b e.sub).toNat) (by omega));by_cases k5:e.kind=5
 .rw[zab (by simp_all),p_taken b _ n h hn,zac];split
  .simp_all
  simp_all
 rw[zaa (by simp_all)];have ok:∀y:Int,∃z,some y=some z/\(z=0->(0<=kx b e.sub/\kx b e.sub<(b.aV.length:Int))/\e.sub ∉ b.ended/\(e.kind=5->∀s,s∈b.aV->e.number ∉ s.numbers)):=λy=>⟨y,rfl,λ_=>⟨H,k2,λk=>absurd k k5⟩⟩
 rw[Ru _ _ (by omega),Ru _ _ (by omega)];simp only[zac];unfold oD oC
 repeat' split
 all_goals exact ok _
structure FY(b:Bk)(e:Event)(last:Int):Prop where
 form:Rv e last
 acc:e.kind=2->0<=Io b e.ah/\Io b e.ah<(b.aH.length:Int)
 add:e.kind=3->kx b e.sub=-1
 sub:¬(e.kind=1∨e.kind=2∨e.kind=3∨e.kind=14∨e.kind=15)->(0<=kx b e.sub/\kx b e.sub<(b.aV.length:Int))/\e.sub ∉ b.ended/\(e.kind=5->∀s,s∈b.aV->e.number ∉ s.numbers)
def TS b e last n(h:BB n b)(hn:n<=10000)(h1:e.name.length<=9223372036854775807)(h2:e.number.length<=9223372036854775807):∃y,qx b e last=some y/\(y=0->FY b e last):=by
 obtain⟨a,d,q1⟩:=p_form e last h1 h2;obtain⟨y2,g,q2⟩:=OT b e n h hn;obtain⟨y3,i,q⟩:=p_ofSub b e n h hn;unfold qx;rw[d,zac,ZM,zac,g,i];by_cases c1:a=0
 .rw[zaa (by simp_all)];have f:=q1 c1;by_cases c:nth (mZ e.kind) 0=true
  .rw[zab c];refine⟨y2,rfl,λh0=>⟨f,λk=>(q2 h0).2 (by omega),λk=>(q2 h0).1 k,λk=>?_⟩⟩;unfold mZ at c;rw[zaa (by omega),zaa (by omega),zaa (by omega)]at c;split at c
   .simp[nth]at c
   split at c
   .simp[nth]at c
   rw[zaa (by omega)]at c;simp[nth]at c
  .rw[zaa c];have H:¬(e.kind=1∨e.kind=2∨e.kind=3∨e.kind=14∨e.kind=15):=λk=>c (by
    unfold mZ;rcases k with k|k|k|k|k<;>simp[k,nth])
   exact⟨y3,rfl,λh0=>⟨f,λk=>absurd (.inr (.inl k)) H,λk=>absurd (.inr (.inr (.inl k))) H,λ_=>q h0⟩⟩
 simp_all
def ML(s:Sub)(e:Event):= if e.kind=4 then { s with numbers:=[],bD:=[] }else TN s e
def Rx s e(h1:s.numbers.length<=100000)(h2:s.bD.length<=100000):qd s e=some (ML s e):=by
 unfold qd ML TN;by_cases k4:e.kind=4
 .rw[zab (by simp_all),zab k4]
 rw[zaa (by simp_all),zaa k4];by_cases k5:e.kind=5
 .rw[zab (by simp_all),ZJ _ _ h1,zab k5];rfl
 rw[zaa (by simp_all),zaa k5];by_cases k6:e.kind=6
 .rw[zab (by simp_all),Kd _ _ h1,zab k6];rfl
 rw[zaa (by simp_all),zaa k6];by_cases k7:e.kind=7
 .rw[zab (by simp_all),zab k7]
 rw[zaa (by simp_all),zaa k7];by_cases k:e.kind=8
 .rw[zab (by simp_all),ZJ _ _ h2,zab k];rfl
 rw[zaa (by simp_all),zaa k];by_cases h:e.kind=9
 .rw[zab (by simp_all),Kd _ _ h2,zab h];rfl
 grind
def chB_len s(e):(ML s e).numbers.length<=s.numbers.length+1/\(ML s e).bD.length<=s.bD.length+1:=by
 unfold ML;split
 .simp
 .exact TO s e
def ZN(b:Bk)(e:Event):=
 if e.kind=3 then b.aV++[Bb e]
 else if e.kind=1∨e.kind=2∨e.kind=14∨e.kind=15 then b.aV
 else b.aV.set (kx b e.sub).toNat (ML (nth b.aV (kx b e.sub).toNat) e)
def Vv(b:Bk)(e:Event):= if e.kind=4 then b.ended++[e.sub]else b.ended
def Mt b e last n(h:BB n b)(hn:n<=10000)(f:FY b e last):∃b',jC b e=some b'/\BB (n+1) b'/\b'.aV=ZN b e/\b'.ended=Vv b e:=by
 have ha:=h.Vu;have hs:=h.aV;have he:=h.ended;have up:=h.up;unfold jC;rw[ae (by omega),ae (by omega),ae (by omega)];unfold ZN Vv;simp only[zcs];by_cases j:e.kind=1
 .have d:¬e.kind=3:=by omega
  have H:¬e.kind=4:=by omega
  rw[zab (by simp_all),ae (by grind),zaa d,zab (.inl j),zaa H];exact⟨_,rfl,⟨by simp_all,up.aV,up.ended,up.nums⟩,rfl,rfl⟩
 rw[zaa (by simp_all)];by_cases k2:e.kind=2
 .have d:¬e.kind=3:=by omega
  have H:¬e.kind=4:=by omega
  have hk:=f.acc k2;rw[zab (by simp_all),Kh b _ (by omega),zac,show vt (λa:aj=>a.id==e.ah) b.aH 0=Io b e.ah from rfl,ae hk,ae (by omega),zaa d,zab (.inr (.inl k2)),zaa H];exact⟨_,rfl,⟨by grind,up.aV,up.ended,up.nums⟩,rfl,rfl⟩
 rw[zaa (by simp_all)];by_cases k3:e.kind=3
 .have H:¬e.kind=4:=by omega
  rw[zab (by simp_all),ae (by grind),zab k3,zaa H];refine⟨_,rfl,⟨up.Vu,by simp_all,up.ended,λs v=>?_⟩,rfl,rfl⟩;simp only[zbi,zcg]at v;rcases v with v|rfl
  .exact up.nums s v
  .simp
 rw[zaa (by simp_all),zaa k3];have m:∀c:Bool,(c=true->e.kind=14∨e.kind=15)->(c=false->¬(e.kind=14∨e.kind=15))->∃b',kX b e c=some b'/\BB (n+1) b'/\b'.aV=(if e.kind=1∨e.kind=2∨e.kind=14∨e.kind=15 then b.aV else b.aV.set (kx b e.sub).toNat (ML (nth b.aV (kx b e.sub).toNat) e))/\b'.ended=(if e.kind=4 then b.ended++[e.sub]else b.ended):=λc g i=>by
  unfold kX;simp only[zcs];cases c with
  | true =>
   have:=g rfl;rw[zab rfl,zab (.inr (.inr this)),zaa (by omega)];simp_all
  | false =>
   have:=i rfl;obtain⟨sp,_,_⟩:=f.sub (by omega);have hm:=h.nums _ (tQ (l:=b.aV) (k:=(kx b e.sub).toNat) (by omega));have q:=chB_len (nth b.aV (kx b e.sub).toNat) e;rw[zaa (by simp),Rt b _ (by omega),zac,ae sp,ae (by omega),Rx _ _ (by omega) (by omega),zac,ae sp,ae (by omega)];have O:∀s,s∈b.aV.set (kx b e.sub).toNat (ML (nth b.aV (kx b e.sub).toNat) e)->s.numbers.length<=n+1/\s.bD.length<=n+1:=λs v=>by
    rcases List.mem_or_eq_of_mem_set v with o|rfl
    .exact up.nums s o
    .omega
   rw[zaa (show ¬(e.kind=1∨e.kind=2∨e.kind=14∨e.kind=15) by omega)];by_cases k4:e.kind=4
   .rw[zab (by simp_all),ae (by grind),zab k4];exact⟨_,rfl,⟨up.Vu,by grind,by simp_all,O⟩,rfl,rfl⟩
   .rw[zaa (by simp_all),zaa k4];exact⟨_,rfl,⟨up.Vu,by grind,up.ended,O⟩,rfl,rfl⟩
 by_cases p:e.kind=14
 .rw[zab (by simp_all)];simp_all
 .rw[zaa (by simp_all)];exact m _ (λk=>.inr (by grind)) (λk=>by rw[beq_eq_false_iff_ne]at k;omega)
def b0:Bk:=⟨[],[],[]⟩
def bb0:BB 0 b0:=⟨by simp[b0],by simp[b0],by simp[b0],λs h=>by simp[b0]at h⟩
def Ry:List Event->Int->Int->Bk->Option (Int×Int)
 | [],_,_,_=>some (0,0)
 | e::l,i,last,b=>(qx b e last).bind λy=>if y≠0 then some (i,y)else(jC b e).bind λb'=>Ry l (i+1) e.at_ b'
def VC:Bk->Int->List Event->Prop
 | _,_,[]=>True
 | b,last,e::l=>FY b e last/\∃b',jC b e=some b'/\VC b' e.at_ l
def ShE(l:LQ Event):= ∀e,e∈l->e.name.length<=9223372036854775807/\e.number.length<=9223372036854775807
def TU:∀l (i last) b n,BB n b->n+l.length<=10000->ShE l->∃x,Ry l i last b=some x/\(x.2=0->VC b last l)
 | [],i,last,b,n,_,_,_=>⟨_,rfl,λ_=>trivial⟩
 | e::l,i,last,b,n,H,hl,hs=>by
  rw[zap]at hl;have a:=hs e (zal ..);obtain⟨y,hy,f⟩:=TS b e last n H (by omega) a.1 a.2;unfold Ry;rw[hy,zac];by_cases h0:y=0
  .rw[zaa (by omega)];obtain⟨b',ha,c,_⟩:=Mt b e last n H (by omega) (f h0);rw[ha,zac];obtain⟨x,h1,h2⟩:=TU l (i+1) e.at_ b' (n+1) c (by omega) (λz d=>hs z (zak _ d));exact⟨x,h1,λh=>⟨f h0,b',ha,h2 h⟩⟩
  simp_all
def Rz bZ(hl:bZ.length<=1000)(hs:ShE bZ):tE bZ=Ry bZ 0 0 b0:=by
 unfold tE;rw[zaa (by grind)];refine bG (step:=λs:Int×Int×LQ aj×LQ Sub×LQ Int=>oE bZ s.1 s.2.1 s.2.2.1 s.2.2.2.1 s.2.2.2.2) bZ (λs=>s.2.1) (λs r=>Ry r s.2.1 s.1 ⟨s.2.2.1,s.2.2.2.1,s.2.2.2.2⟩)
  (λs r=>0<=s.2.1/\ShE r/\∃n,BB n ⟨s.2.2.1,s.2.2.2.1,s.2.2.2.2⟩/\n+r.length<=10000) (by omega) ?_ ?_ (s:=(0,0,[],[],[])) rfl ⟨by simp,hs,0,bb0,by omega⟩
 .rintro⟨last,i,a,s,en⟩ ⟨h1,_⟩ h2
  try simp only at h2
  refine⟨(0,0),?_,rfl⟩;unfold oE;rw[zaa (by simp_all)]
 .rintro⟨last,i,a,s,en⟩ e r ⟨h1,H,n,h,h2⟩ h3 h4 b c;simp only at h1 h2 h3 h4 b c h;rw[zap]at h2;have he:=H e (zal ..);obtain⟨y,hy,f⟩:=TS ⟨a,s,en⟩ e last n h (by omega) he.1 he.2;unfold oE;simp only;rw[zab (by simp_all),ae ⟨h3,h4⟩,b,hy,zac];by_cases h0:y=0
  .obtain⟨b',ha,d,_⟩:=Mt ⟨a,s,en⟩ e last n h (by omega) (f h0);rw[zaa (by simp_all),ae ⟨h3,h4⟩,ha,zac,ae ⟨h3,h4⟩,ae ⟨by omega,by omega⟩];refine .inr ⟨(e.at_,i+1,b'.aH,b'.aV,b'.ended),rfl,⟨by grind,λz g=>H z (zak _ g),n+1,d,by omega⟩,rfl,?_⟩;simp only;rw[Ry,hy,zac,zaa (by omega),ha,zac]
  .rw[zab (by simp_all)];refine .inl ⟨_,rfl,?_⟩
   try simp only
   rw[Ry,hy,zac,zab h0]
def Vw{n w}(h:WB n w):∀s,s∈pj w->s.numbers.length<=n:=λs hs=>by
 obtain⟨k,_,hk⟩:=List.mem_filterMap.1 hs;exact(h.nums k s hk).1
def ZO{n w}(h:WB n w):(pj w).length<=n:=zci (List.length_filterMap_le ..) h.added
def ZP bZ r id(hl:bZ.length<=5000)(hs:Sm r):∃w,OQ r.start bZ w0=some w/\jr bZ r id=some (Rr (pj w) r id):=by
 obtain⟨w,a,h1,h2,h3⟩:=p_State bZ r.start hl;have:=p_Usage bZ r id ⟨a,pj w⟩ h3 (by have:=ZO h2;grind) (λs v=>by have:=Vw h2 s v;omega) hs;simp_all
abbrev td(b:Bk):= b.aV.map (·.id)
structure yY(n:Nat)(w:W7)(b:Bk):Prop where
 wb:WB n w
 bb:BB n b
 ids:(td b).Nodup
 asc:w.2.1.Pairwise (· < ·)
 mem:∀k,k∈w.2.1↔k∈td b
 ev:∀k,(ak w.2.2.2.2.1 k).getD false=true↔k∈td b
 look:∀s,s∈b.aV->ak w.2.2.2.1 s.id=if s.id∈b.ended then none else some s
 keys:∀k,k ∉ td b->ak w.2.2.2.1 k=none
 rng:∀k,k∈td b->1<=k/\k<=9999
 ZQ:b.ended.Nodup
 Vx:∀k,k∈b.ended->k∈td b
 num:∀s s' x,s∈b.aV->s'∈b.aV->x∈s.numbers->x∈s'.numbers->s.id=s'.id
 ne:∀s,s∈b.aV->[] ∉ s.numbers
 acc:∀s,s∈b.aV->1<=s.ah/\s.ah<=9999
def inv0:yY 0 w0 b0:=⟨wb0,bb0,by simp[td,b0],by simp[w0],λk=>by simp[w0,b0],λk=>by simp[w0,b0,ak],λs h=>by simp[b0]at h,λk _=>by simp[w0,ak],λk h=>by simp[b0]at h,by simp[b0],λk h=>by simp[b0]at h,λs H x h=>by simp[b0]at h,λs h=>by simp[b0]at h,λs h=>by simp[b0]at h⟩
def TV(f:Sub->Int)(y):∀l i,i<l.length->f y=f (nth l i)->(l.set i y).map f=l.map f
 | [],i,h,_=>by simp at h
 | a::l,0,_,h=>by rw[gB]at h;simp[h]
 | a::l,i+1,h,hy=>by
  rw[List.set_cons_succ,zbb,zbb,TV f y l i (by rw[zap]at h;omega) hy]
def TW(y):∀(l:LQ Sub) i,i<l.length->(l.map (·.id)).Nodup->y.id=(nth l i).id->∀s,s∈l.set i y->s=y∨s∈l/\s.id≠y.id
 | [],i,h,_,_,_,_=>by simp at h
 | a::l,0,_,hn,h,s,hs=>by
  rw[gB]at h
  grind
 | a::l,i+1,h,hn,hy,s,hs=>by
  rw[zap]at h;rw[List.set_cons_succ,zao]at hs;rw[zbb,zbz]at hn;rcases hs with rfl|hs
  .exact .inr ⟨zal ..,λe=>hn.1 (by rw[e,hy];exact zen (tQ (by omega)))⟩
  .rcases TW y l i (by omega) hn.2 hy s hs with h1|⟨h1,h2⟩
   .grind
   simp_all
def chF_id s(e):(TN s e).id=s.id:=by
 unfold TN;grind
def chB_id s(e):(ML s e).id=s.id:=by
 unfold ML;split
 .rfl
 .exact chF_id s e
def chB_acc s(e):(ML s e).ah=s.ah:=by
 unfold ML TN;repeat' split
 all_goals rfl
def rem_mem(x z) l(h:z∈Jo x l):z∈l:=(zcx.1 h).1
def Ip s(e):∀x,x∈(ML s e).numbers->e.kind=5/\x=e.number∨x∈s.numbers:=λx hx=>by
 unfold ML TN at hx
 repeat' split at hx
 all_goals first|(simp at hx;done)|exact .inr hx|skip
 .rename_i k5;rcases(FX _ _ _ _).1 hx with h|h
  .simp_all
  simp_all
 .exact .inr (rem_mem _ _ _ hx)
def Ki b(k):kx b k=-1/\k ∉ td b∨0<=kx b k/\kx b k<b.aV.length/\(nth b.aV (kx b k).toNat).id=k:=by
 rcases vv (λa:Sub=>a.id==k) b.aV 0 (by omega)with⟨q,h⟩|⟨q1,q2,H⟩
 .refine .inl ⟨q,λc=>?_⟩
  grind
 .refine .inr ⟨q1,by unfold kx;omega,?_⟩;rw[show(vt (λa:Sub=>a.id==k) b.aV 0-0).toNat=(kx b k).toNat from by unfold kx;omega]at H;simp_all
def TX(x):∀l,l.Pairwise (· < ·)->x ∉ l->(vr Jn x l).Pairwise (· < ·)
 | [],_,_=>by simp[vr]
 | y::t,h,hx=>by
  rw[zat]at h;rw[zao,not_or]at hx;unfold vr;by_cases hy:Jn y x=true
  .rw[zab hy,zat];refine⟨λz H=>?_,TX x t h.2 hx.2⟩;rcases(FX _ _ _ _).1 H with rfl|H
   .simpa[Jn] using hy
   simp_all
  .rw[zaa hy,zat,zat];have b:=by simp[Jn]at hy;omega
   grind
def yY.up{n w b}(h:yY n w b):yY (n+1) w b:={ h with wb:=h.wb.up,bb:=h.bb.up }
def yY.find{n w b}(h:yY n w b){s H}(hs:s∈b.aV)(v:H∈b.aV)(e:s.id=H.id):s=H:=by
 have key:∀(l:LQ Sub),(l.map (·.id)).Nodup->s∈l->H∈l->s=H:=by
  intro l
  induction l with
  | nil=>simp_all
  | cons a l i =>
   grind
 exact key _ h.ids hs v
def ZR n w b e last(h:yY n w b)(hn:n<=10000)(f:FY b e last):∃w' b',apO e w=some w'/\jC b e=some b'/\yY (n+1) w' b':=by
 obtain⟨w',L,B,d,es,j⟩:=Mq n e w h.wb hn;obtain⟨b',N,C,bs,be⟩:=Mt b e last n h.bb hn f;refine⟨w',b',L,N,?_⟩;by_cases v:e.kind=1∨e.kind=2∨e.kind=14∨e.kind=15
 .have D:¬e.kind=3:=by omega
  have E:¬e.kind=4:=by omega
  unfold ZK at d;rw[zaa (λk=>D k.1)]at d;unfold Vs at es;rw[zaa D,zaa E,zab v]at es;unfold evF at j;rw[zaa D]at j;unfold ZN at bs;rw[zaa D,zab v]at bs;unfold Vv at be;rw[zaa E]at be;have hi:td b'=td b:=by grind
  exact⟨B,C,by rw[hi];exact h.ids,by rw[d];exact h.asc,by rw[d,hi];exact h.mem,by rw[j,hi];exact h.ev,by rw[es,bs,be];exact h.look,by rw[es,hi];exact h.keys,by rw[hi];exact h.rng,by rw[be];exact h.ZQ,by rw[be,hi];exact h.Vx,by rw[bs];exact h.num,by rw[bs];exact h.ne,by rw[bs];exact h.acc⟩
 by_cases k3:e.kind=3
 .have E:¬e.kind=4:=by omega
  have T:=f.add k3;have l:e.sub ∉ td b:=by
   rcases Ki b e.sub with⟨_,q⟩|⟨q,_⟩
   .exact q
   .omega
  have U:=f.form.sub v;have O:(ak w.2.2.2.2.1 e.sub).getD false=false:=by
   cases P:(ak w.2.2.2.2.1 e.sub).getD false with
   | false=>rfl
   | true=>exact absurd ((h.ev _).1 P) l
  unfold ZK at d;rw[zab ⟨k3,O⟩]at d;unfold Vs at es;rw[zab k3]at es;unfold evF at j;rw[zab k3]at j;unfold ZN at bs;rw[zab k3]at bs;unfold Vv at be;rw[zaa E]at be;have hi:td b'=td b++[e.sub]:=by unfold td;rw[bs,zcd];rfl
  have F:e.sub ∉ b.ended:=λk=>l (h.Vx _ k)
  refine⟨B,C,?_,?_,?_,?_,?_,?_,?_,?_,?_,?_,?_,?_⟩
  .rw[hi,zdi];exact⟨h.ids,by simp,λa ha c I=>by rw[zcg.1 I];grind⟩
  .rw[d];exact TX _ _ h.asc (λk=>l ((h.mem _).1 k))
  .intro k;rw[d,FX,hi,zbi,zcg,h.mem k];grind
  .intro k;rw[j,eC,hi,zbi,zcg];by_cases hk:k=e.sub
   .simp[hk]
   .rw[zaa (by simp_all),h.ev k];simp[hk]
  .intro s hs;rw[bs,zbi,zcg]at hs;rw[es,be,eC];rcases hs with hs|rfl
   .have:s.id≠e.sub:=λq=>l (by rw[←q];simp_all);rw[zaa (by simp_all)];exact h.look s hs
   .rw[zab (by simp[Bb]),zaa (by simpa[Bb] using F)]
  .intro k hk;rw[hi,zbi,zcg,not_or]at hk;rw[es,eC,zaa (by simp_all)];exact h.keys k hk.1
  .intro k hk;rw[hi,zbi,zcg]at hk;rcases hk with hk|rfl
   .exact h.rng k hk
   omega
  .rw[be];exact h.ZQ
  .intro k hk;rw[be]at hk;rw[hi,zbi];exact .inl (h.Vx k hk)
  .intro s Q x hs G hx m;rw[bs,zbi,zcg]at hs G;rcases hs with hs|rfl
   .rcases G with G|rfl
    .exact h.num s Q x hs G hx m
    .simp[Bb]at m
   .simp[Bb]at hx
  .intro s hs;rw[bs,zbi,zcg]at hs;rcases hs with hs|rfl
   .exact h.ne s hs
   .simp[Bb]
  .intro s hs;rw[bs,zbi,zcg]at hs;rcases hs with hs|rfl
   .exact h.acc s hs
   .exact f.form.acct k3
 obtain⟨⟨s0,s1⟩,F,W⟩:=f.sub (by omega);have hid:(nth b.aV (kx b e.sub).toNat).id=e.sub:=by
  rcases Ki b e.sub with⟨q,_⟩|⟨_,_,q⟩
  .omega
  .exact q
 have Z:nth b.aV (kx b e.sub).toNat∈b.aV:=tQ (by omega);have J:(kx b e.sub).toNat<b.aV.length:=by omega
 generalize R:(kx b e.sub).toNat=i at hid Z J;generalize M:nth b.aV i=s at hid Z;unfold ZK at d;rw[zaa (λk=>k3 k.1)]at d;unfold evF at j;rw[zaa k3]at j;unfold ZN at bs;rw[zaa k3,zaa v,R,M]at bs;have p:(ML s e).id=s.id:=chB_id s e;have hi:td b'=td b:=by unfold td;rw[bs];exact TV _ _ _ _ J (by rw[M];exact p)
 have r:∀z,z∈b'.aV->z=ML s e∨(z∈b.aV/\z.id≠e.sub):=λz H=>by
  rw[bs]at H;have:=TW _ _ _ J h.ids (by rw[M];exact p) z H
  rwa [p,hid]at this
 have y:∀z o x,z∈b'.aV->o∈b'.aV->x∈z.numbers->x∈o.numbers->z.id=o.id:=λz o x H u hx m=>by
  rcases r z H with rfl|⟨H,t⟩
  .rcases r o u with rfl|⟨u,A⟩
   .rfl
   .rcases Ip s e x hx with⟨k5,rfl⟩|hx
    .simp_all
    .rw[p];exact h.num s o x Z u hx m
  .rcases r o u with rfl|⟨u,A⟩
   .rcases Ip s e x m with⟨k5,rfl⟩|m
    .simp_all
    .rw[p];exact h.num z s x H Z hx m
   .exact h.num z o x H u hx m
 have K:∀z,z∈b'.aV->[] ∉ z.numbers:=λz H hx=>by
  rcases r z H with rfl|⟨H,_⟩
  .rcases Ip s e [] hx with⟨k5,hx⟩|hx
   .exact f.form.num k5 hx.symm
   .exact h.ne s Z hx
  .exact h.ne z H hx
 have g:∀z,z∈b'.aV->1<=z.ah/\z.ah<=9999:=λz H=>by
  rcases r z H with rfl|⟨H,_⟩
  .rw[chB_acc];exact h.acc s Z
  .exact h.acc z H
 have V:e.sub∈td b:=by rw[←hid];grind
 by_cases k4:e.kind=4
 .unfold Vs at es;rw[zaa k3,zab k4]at es;unfold Vv at be;rw[zab k4]at be;refine⟨B,C,by rw[hi];exact h.ids,by rw[d];exact h.asc,by rw[d,hi];exact h.mem,by rw[j,hi];exact h.ev,?_,?_,by rw[hi];exact h.rng,?_,?_,y,K,g⟩
  .intro z H;rw[es,be,rK _ _ h.wb.keys];rcases r z H with rfl|⟨H,t⟩
   .rw[p,hid,zab (by simp),zab (by simp)]
   .rw[zaa (by simp_all),h.look z H];simp[t]
  .intro k hk;rw[hi]at hk;rw[es,rK _ _ h.wb.keys];split
   .rfl
   .exact h.keys k hk
  .rw[be,zdi];exact⟨h.ZQ,by simp,λa ha c I=>by rw[zcg.1 I];grind⟩
  .intro k hk;rw[be,zbi,zcg]at hk;rw[hi];rcases hk with hk|rfl
   .exact h.Vx k hk
   omega
 .unfold Vs at es;rw[zaa k3,zaa k4,zaa v]at es;unfold Vv at be;rw[zaa k4]at be;have hl:=h.look s Z;rw[hid,zaa F]at hl;rw[hl]at es;simp only at es;have S:ML s e=TN s e:=by unfold ML;rw[zaa k4]
  refine⟨B,C,by rw[hi];exact h.ids,by rw[d];exact h.asc,by rw[d,hi];exact h.mem,by rw[j,hi];exact h.ev,?_,?_,by rw[hi];exact h.rng,by rw[be];exact h.ZQ,by rw[be,hi];exact h.Vx,y,K,g⟩
  .intro z H;rw[es,be,eC];rcases r z H with rfl|⟨H,t⟩
   .rw[p,hid,zab (by simp),zaa F,S]
   .rw[zaa (by simp_all)];exact h.look z H
  .intro k hk;rw[hi]at hk;have:k≠e.sub:=λq=>hk (q▸V)
   rw[es,eC,zaa (by simp_all)];exact h.keys k hk
def upB(t:Int):List Event->Bk->Option Bk
 | [],b=>some b
 | e::l,b=>if e.at_<=t then(jC b e).bind (upB t l)else upB t l b
def OU:∀l b last,VC b last l->∀e,e∈l->last<=e.at_
 | [],_,_,_,e,h=>by simp at h
 | a::l,b,last,h,e,he=>by
  obtain⟨f,b',_,hv⟩:=h;have h1:=f.form.at_;rcases zao.1 he with rfl|he
  .exact h1
  .have:=OU l b' a.at_ hv e he;omega
def OV t w(b):∀l,(∀e,e∈l->t<e.at_)->OQ t l w=some w/\upB t l b=some b
 | [],_=>⟨rfl,rfl⟩
 | e::l,h=>by
  have a:=h e (zal ..);rw[OQ,zaa (by omega),upB,zaa (by omega)];exact OV t w b l λz H=>h z (zak _ H)
def ZT{n m w b}(h:yY n w b)(hm:n<=m):yY m w b:=by
 induction m with
 | zero=>rwa [show n=0 from by omega]at h
 | succ m i =>
  by_cases e:n=m+1
  .rwa [e]at h
  .exact(i (by omega)).up
def TY(t):∀l n w b last,yY n w b->n+l.length<=10000->VC b last l->∃w' b',OQ t l w=some w'/\upB t l b=some b'/\yY (n+l.length) w' b'
 | [],n,w,b,_,h,_,_=>⟨w,b,rfl,rfl,h⟩
 | e::l,n,w,b,last,h,hn,hv=>by
  obtain⟨f,b1,I,hv⟩:=hv;rw[zap]at hn ⊢;by_cases ht:e.at_<=t
  .obtain⟨w',b',c,a,hi⟩:=ZR n w b e last h (by omega) f;rw[I]at a;cases a;obtain⟨d,b2,q1,q2,q⟩:=TY t l (n+1) w' b1 e.at_ hi (by omega) hv;refine⟨d,b2,?_,?_,?_⟩
   .rw[OQ,zab ht,c];exact q1
   .rw[upB,zab ht,I];exact q2
   grind
  .have hs:∀z,z∈e::l->t<z.at_:=λz H=>by
    rcases zao.1 H with rfl|H
    .omega
    .have:=OU l b1 e.at_ hv z H;omega
   obtain⟨q1,q2⟩:=OV t w b _ hs;exact⟨w,b,q1,q2,ZT h (by omega)⟩
def Kj:∀(l m:LQ Int),l.Nodup->(∀k,k∈l->k∈m)->l.length<=m.length
 | [],m,_,_=>by simp
 | a::l,m,hn,h=>by
  rw[zbz]at hn;have ha:=h a (zal ..);have:=Kj l (m.erase a) hn.2 (λk hk=>(List.mem_erase_of_ne (λq=>hn.1 (by rw[←q];exact hk))).2 (h k (zak _ hk)));rw[List.length_erase_of_mem ha]at this;have:=List.length_pos_of_mem ha;rw[zap];omega
section state
variable {n:Nat}{w:W7}{b:Bk}
def yY.TZ(h:yY n w b){k s}(hs:ak w.2.2.2.1 k=some s):s∈b.aV/\s.id=k/\k ∉ b.ended:=by
 by_cases hk:k∈td b
 .obtain⟨z,h1,h2⟩:=zck.1 hk;have:=h.look z h1;rw[h2,hs]at this;simp_all
 .rw[h.keys k hk]at hs;cases hs
def yY.Vy(h:yY n w b){k}(hk:k∈td b)(he:k ∉ b.ended):∃s,ak w.2.2.2.1 k=some s/\s∈b.aV/\s.id=k:=by
 obtain⟨z,h1,h2⟩:=zck.1 hk;have:=h.look z h1;rw[h2,zaa he]at this;simp_all
def yY.Vz(h:yY n w b){k}(he:k∈b.ended):ak w.2.2.2.1 k=none:=by
 cases hs:ak w.2.2.2.1 k with
 | none=>rfl
 | some s=>exact absurd he (h.TZ hs).2.2
def yY.OW(h:yY n w b):∀(l:LQ Int),(∀k,k∈l->k∈td b)->(l.filterMap (ak w.2.2.2.1)).map (·.id)=l.filter λk=>decide (k ∉ b.ended)
 | [],_=>rfl
 | k::l,hl=>by
  have i:=yY.OW h l λz a=>hl z (zak _ a)
  by_cases H:k∈b.ended
  .rw[zff,h.Vz H,zby,zaa (by simp_all)];exact i
  .obtain⟨s,h1,_,h3⟩:=h.Vy (hl k (zal ..)) H;rw[zff,h1,zby,zab (by simp_all),zbb,i,h3]
def yY.Mu(h:yY n w b):(pj w).map (·.id)=w.2.1.filter λk=>decide (k ∉ b.ended):=h.OW _ λk hk=>(h.mem k).1 hk
def yY.addN(h:yY n w b):w.2.1.Nodup:=h.asc.imp λh=>by omega
def yY.liveN(h:yY n w b):((pj w).map (·.id)).Nodup:=by rw[h.Mu];exact List.Pairwise.filter _ h.addN
def yY.Iq(h:yY n w b){s}(hs:s∈pj w):s∈b.aV/\s.id ∉ b.ended:=by
 obtain⟨k,_,hk⟩:=List.mem_filterMap.1 hs;obtain⟨h1,h2,h3⟩:=h.TZ hk;simp_all
def yY.count(h:yY n w b):(pj w).length+b.ended.length<=b.aV.length:=by
 have:=Kj ((pj w).map (·.id)++b.ended) (td b) (by
  rw[zdi];refine⟨h.liveN,h.ZQ,λa ha c H=>?_⟩;rw[h.Mu,zcx]at ha
  grind) (λk hk=>by
  rcases zbi.1 hk with hk|hk
  .rw[h.Mu,zcx]at hk;exact(h.mem k).1 hk.1
  .exact h.Vx k hk)
 simp_all
end state
end Go.Proofs.YtleflofddacmdaaGreatDoor
