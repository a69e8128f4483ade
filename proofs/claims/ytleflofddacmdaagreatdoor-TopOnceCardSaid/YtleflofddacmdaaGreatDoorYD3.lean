/- Our own texts of this seat. -/
import Derived.Test.YtleflofddacmdaaGreatDoorYD2
import Derived.Laws.IdiomStrings
import Derived.Laws.RangeString
import Derived.Lib.UnsafeStr
import Derived.Lib.Bytealg
import Derived.Lib.Index
import Derived.Lib.Builder
import Derived.Lib.ItoaNum
import Derived.Lib.Split
import Derived.Lib.Strings
import Derived.WalkKit
import Derived.Lib.SplitLaws
set_option linter.all false
set_option maxRecDepth 100000
set_option maxHeartbeats 1000000
noncomputable section
namespace Go.CI
open Go.RowKit
open Go.Abs
section pure
variable {P:uG}{T:Tr TI}{r:S1}{μ:Mp}{env:Tr V}{tmps:uD uB}
def byte_at{bs}{j b:Nat}(h:(bs.map UInt8.toNat)[j]?=some b):∃c:uA,(⟨⟨bs⟩⟩:ByteArray)[j]?=some c/\c.toNat=b:=by
 rw[zau]at h;cases H:bs[j]? with
 | none=>rw[H]at h;cases h
 | some c =>
  rw[H]at h;cases h;refine⟨c,?_,rfl⟩;have hl:=(zad.1 H).1;show(⟨bs.toArray⟩:ByteArray)[j]?=some c;rw[ByteArray.getElem?_lt' _ _ (by simpa[ByteArray.size] using hl)];have:=(zad.1 H).2;simpa[ByteArray.getElem_eq_getElem_data] using this
def pu_idx(hT:qn P T){t x y k}(h:(lE env x λx=>lE env y λy=>oIdx T t x y k)=.v r):∃v,k v=.v r/\LJ P env (.index t x y) v:=by
 obtain⟨a,h1,h⟩:=eZ h;obtain⟨b,h2,h⟩:=eZ h;unfold oIdx at h;split at h
 .rename_i j m;split at h
  .rename_i l hx;split at h
   rotate_left
   .cases h
   rename_i i hi;obtain⟨inf,d,A,n,rfl⟩:=ti hT hi;split at h
   rotate_left
   .cases h
   rename_i hk;have o:=AN hk;subst o;rw[cV]at h;split at h
   .rename_i b' p;refine⟨_,h,λμ tmps d ty pos B g e=>?_⟩;have f:=eT e h1;obtain⟨kk,q⟩:=Ht m (eT e h2);generalize z:Act.eval ⟨tmps,[]⟩ x=u at f;cases f with
    | s bs =>
     obtain⟨c,H,rfl⟩:=byte_at p;have hty:P.underlying t=some .string:=n;have h0:(0:Int)<=(j:Int):=by omega
     exact⟨.int .u8 (c.toNat:Int),λw=>by simp[execOp,z,q,Instr.index,asIntOf,run_underlying hty,H],.c _⟩
   .cases h
  .cases h
 .cases h
def pu_conv(hT:qn P T){s t:Nat}{i0 d0}(hs:P.info? s=some i0)(H:P.underlying s=some d0)(M:∀e,d0≠.slice e)(b:d0≠.unsafePointer){x k}(h:(lE env x λx=>XY T t x k)=.v r):∃v,k v=.v r/\LJ P env (.convert s t x) v:=by
 obtain⟨a,h1,h⟩:=eZ h;unfold XY at h;split at h
 .rename_i i hi;obtain⟨inf,d,o,f,rfl⟩:=ti hT hi;split at h
  .rename_i j hk;have:=LK hk;subst this;split at h
   .rename_i p n hx;rw[Hp]at h;refine⟨_,h,λμ tmps d ty pos q g l=>⟨_,λw=>?_,.c _⟩⟩;have m:=(eT l h1).int;simp only[execOp,m,convert,Sem.run_bind,run_underlying H,run_underlying f,Result.andThen_ok,Conv.intToInt,Sem.run_pure]
   .cases h
  .cases h
 .cases h
def lay_put{cs vs off}(h:off+vs.length<=cs.length):lay ⟨cs⟩ ⟨vs⟩ off=⟨cs.take off++vs++cs.drop (off+vs.length)⟩:=by
 obtain⟨h1,h2⟩:=KC ⟨cs⟩ ⟨vs⟩ off (by omega);apply Array.ext_getElem?
 grind
def QS{t}:∀{ps cs k},fill env t ps cs k=.v r->∃a,k a=.v r/\a.length=cs.length/\∀μ tmps us pl,(∀i,pl i=place t i)->ER μ env tmps->Rs μ cs us->(∀u∈us,u.oneCell'=true) ->
  ∃M,Instr.fill pl ⟨us⟩ (ps.map λp=>(p.1,Act.eval ⟨tmps,[]⟩ p.2))=some ⟨M⟩/\Rs μ a M/\∀u∈M,u.oneCell'=true
 | [],cs,k,h=>⟨cs,h,rfl,λμ tmps us pl _ _ b h1=>⟨us,rfl,b,h1⟩⟩
 | (i,x)::ps,cs,k,h=>by
  unfold fill at h;split at h
  .rename_i off sz f;obtain⟨v,h1,h⟩:=eZ h;split at h
   .rename_i vs g;split at h
    .rename_i d;simp only[zam]at d;have I:=zai d.1;have E:=zae d.2;rw[vY _ _ _ _ (by omega)]at h;obtain⟨a,h2,h3,h4⟩:=QS h;refine⟨a,h2,by rw[h3];grind,λμ tmps us pl K e b U=>?_⟩
     have hv:=eT e h1;obtain⟨c1,c2⟩:=tL g hv;have hl:=b.len;have j:=c1.len;have c:Rs μ (cs.take off++vs++cs.drop (off+vs.length)) (us.take off++(Act.eval ⟨tmps,[]⟩ x).cells.toList++us.drop (off+(Act.eval ⟨tmps,[]⟩ x).cells.toList.length)):=by
      rw[←j];exact((b.take off).append c1).append (b.drop _)
     have H:∀u∈us.take off++(Act.eval ⟨tmps,[]⟩ x).cells.toList++us.drop (off+(Act.eval ⟨tmps,[]⟩ x).cells.toList.length),u.oneCell'=true:=λu m=>by
      grind
     obtain⟨M,l,k2,k3⟩:=h4 μ tmps _ pl K e c H;refine⟨M,?_,k2,k3⟩;have hle:=lay_put (cs:=us) (vs:=(Act.eval ⟨tmps,[]⟩ x).cells.toList) (off:=off) (by omega);simp only[zbb,Instr.fill,K,f];rw[zaa (by simp_all)];rw[←l];show Instr.fill pl (lay ⟨us⟩ (Act.eval ⟨tmps,[]⟩ x).cells off) _=_;congr 1
    .cases h
   .cases h
  .cases h
def Ym(hT:qn P T){t ps k}(h:QJ T env t ps.toList k=.v r):∃v,k v=.v r/\LJ P env (.build t ps) v:=by
 unfold QJ at h;split at h
 .rename_i i hi;obtain⟨inf,d,j,m,rfl⟩:=ti hT hi;split at h
  rotate_left
  .cases h
  rename_i H;split at h
  .rename_i z c;obtain⟨Q,zv,o,q,u,_⟩:=Ch c;rw[j]at o;cases o;obtain⟨y,h2,h3,h4⟩:=QS h;refine⟨_,h2,λμ tmps E ty pos I g A=>?_⟩;simp only at c;rw[u]at c;obtain⟨c1,c2⟩:=tL c (Hr μ zv);have main:∀pl:Nat->LX (Nat×Nat),(∀i,pl i=place ⟨lD P d,inf.size,QI P t,rn P (FJ d),QI P (FJ d),QH P (FJ d),QH P t,BO P t,Go.Abs.jd P t,LA P (FJ d),ptT d⟩ i)->∃M,Instr.fill pl zv.cells (ps.toList.map λp=>(p.1,Act.eval ⟨tmps,[]⟩ p.2))=some ⟨M⟩/\R μ (.a y) (.agg ⟨M⟩):=λpl K=>by
    obtain⟨M,l,k2,k3⟩:=h4 μ tmps _ pl K A c1 c2;exact⟨M,l,.a k2 k3⟩
   cases hk:lD P d with
   | st J =>
    obtain⟨F,rfl,rfl,B⟩:=Yj hk;obtain⟨M,l,k2⟩:=main (λi=>(F.toList.map λf=>(f.offset,rn P f.type))[i]?) (λi=>by
     unfold place;simp only[hk];rw[cV]
     grind)
    refine⟨_,λw=>?_,k2⟩;have K:(F.mapM (λf=>do pure (f.offset,←sizeOf f.type):Field->Sem (Nat×Nat))).run P w=.ok (F.toList.map λf=>(f.offset,rn P f.type)).toArray w:=by
     rw[←zfz (xs:=F),zev];simp only[Sem.run_map,xp (P:=P) F.toList (λf C=>(B f C).1) w,Result.andThen_ok]
    have G:(λi:Nat=>((F.toList.map λf=>(f.offset,rn P f.type)).toArray)[i]?)=(λi=>(F.toList.map λf=>(f.offset,rn P f.type))[i]?):=by
     funext i;simp
    have b:Instr.fill (λi=>(F.toList.map λf=>(f.offset,rn P f.type))[i]?) zv.cells (Array.map (λ(x:Nat×uH)=>(x.1,Act.eval ⟨tmps,[]⟩ x.2)) ps).toList=some ⟨M⟩:=by simp_all
    simp only[execOp,Instr.build,Sem.run_bind,ja j q,Result.andThen_ok,run_underlying m,K];rw[G];simp_all
   | ar n e =>
    obtain⟨rfl,ie,L,s,D⟩:=Yh hk;obtain⟨M,l,k2⟩:=main (λi=>some (i*ie.size,ie.size)) (λi=>by
     unfold place;simp only[hk,FJ,rF s])
    refine⟨_,λw=>?_,k2⟩;have b:Instr.fill (λi=>some (i*ie.size,ie.size)) zv.cells (Array.map (λ(x:Nat×uH)=>(x.1,Act.eval ⟨tmps,[]⟩ x.2)) ps).toList=some ⟨M⟩:=by simp_all
    simp only[execOp,Instr.build,Sem.run_bind,ja j q,Result.andThen_ok,run_underlying m,cM s,b,Sem.run_pure]
   | _=>simp only at H;rw[hk]at H;cases H
  .cases h
 .cases h
def mm_v{b x y k}(h:mm b x y k=.v r):∃v,k v=.v r/\∀μ u z,R μ x u->R μ y z->∃q,(∀w,((if b then Builtin.min2 else Builtin.max2) u z).run P w=.ok q w)/\R μ v q:=by
 unfold mm at h;split at h
 .rename_i j m;split at h
  .rename_i e n;split at h
   .split at h
    .rename_i H;have H:=zbk H;exact⟨_,h,λμ u z a d=>by cases a;cases d;exact⟨_,λw=>by simp only[zce,Builtin.min2,zab H];rfl,.c _⟩⟩
    .rename_i H;have H:=zdb H;exact⟨_,h,λμ u z a d=>by cases a;cases d;exact⟨_,λw=>by simp only[zce,Builtin.min2,zaa H];rfl,.c _⟩⟩
   .split at h
    .rename_i H;have H:=zbk H;exact⟨_,h,λμ u z a d=>by cases a;cases d;exact⟨_,λw=>by simp only[zay,zbq,Builtin.max2,zab H];rfl,.c _⟩⟩
    .rename_i H;have H:=zdb H;exact⟨_,h,λμ u z a d=>by cases a;cases d;exact⟨_,λw=>by simp only[zay,zbq,Builtin.max2,zaa H];rfl,.c _⟩⟩
  .cases h
 .cases h
def mms_v{b}:∀{l x k},mms b l x k=.v r->∃v,k v=.v r/\∀μ us u,Rs μ l us->R μ x u->∃q,(∀w,(us.foldlM (if b then Builtin.min2 else Builtin.max2) u).run P w=.ok q w)/\R μ v q
 | [],x,k,h=>⟨x,h,λμ us u hl hx=>by cases hl;simp_all⟩
 | y::l,x,k,h=>by
  unfold mms at h;obtain⟨z,h1,h2⟩:=mm_v (P:=P) h;obtain⟨v,h3,h4⟩:=mms_v h1;refine⟨v,h3,λμ us u hl hx=>?_⟩;cases hl with
  | cons hy hl =>
   obtain⟨q,H,k2⟩:=h2 μ _ _ hx hy;simp_all
def pu_mm{b xs ts k}(h:(bZ env xs.toList λl=>oMM b l k)=.v r):∃v,k v=.v r/\LJ P env (.call ⟨.builtin (if b then .min else .max),xs,ts⟩) v:=by
 obtain⟨vs,h1,h⟩:=Ce h;unfold oMM at h;split at h
 .cases h
 .rename_i x l;obtain⟨v,h2,h3⟩:=mms_v (P:=P) h;refine⟨v,h2,λμ tmps d ty pos f g e=>?_⟩;have H:=Cg e h1;generalize a:xs.toList.map (Act.eval ⟨tmps,[]⟩)=us at H;cases H with
  | cons hx hl =>
   obtain⟨q,c,k2⟩:=h3 μ _ _ hl hx;refine⟨q,λw=>?_,k2⟩;cases b with
   | true=>simp[execOp,resolve,invoke,builtin,Builtin.min_,a];have:=c w;simp_all
   | false=>simp[execOp,resolve,invoke,builtin,Builtin.max_,a];have:=c w;simp_all
def pu_cap{xs ts k}(h:(bZ env xs.toList λl=>oCap l k)=.v r)(ht:∃t e,ts[0]?=some t/\P.underlying t=some (.slice e)):∃v,k v=.v r/\LJ P env (.call ⟨.builtin .cap,xs,ts⟩) v:=by
 obtain⟨vs,h1,h⟩:=Ce h;obtain⟨t,e,H,A⟩:=ht;unfold oCap at h;have hx:∀(tmps:uD uB) u,xs.toList.map (Act.eval ⟨tmps,[]⟩)=[u]->(xs.map (Act.eval ⟨tmps,[]⟩))[0]?=some u:=λtmps u a=>by
  have:(xs.map (Act.eval ⟨tmps,[]⟩)).toList=[u]:=by simp_all
  rw[←zcf,this];rfl
 split at h
 .refine⟨_,h,λμ tmps d ty pos i g f=>?_⟩;have b:=Cg f h1;generalize a:xs.toList.map (Act.eval ⟨tmps,[]⟩)=us at b;cases b with
  | cons hy hl =>
   cases hl;have:=hx tmps _ a;cases hy;exact⟨_,λw=>by simp only[execOp,resolve,Sem.run_bind,Sem.run_pure,Result.andThen_ok,invoke,builtin,Builtin.cap_,H,this,run_underlying A];rfl,.c _⟩
 .cases h
end pure
section rd
variable {P:uG}{T:Tr TI}{r:S1}{μ:Mp}{env:Tr V}{tmps:uD uB}{h:Tr Ob}
def Wh(P:uG)(env:Tr V)(h:Tr Ob)(o:Op)(v:V):=
 ∀μ B w tmps (d) (ty:Nat) (pos) (a) (g),HR μ B h.get w->ER μ env tmps->∃u,(execOp (Act.eval ⟨tmps,[]⟩) ⟨d,o,ty,pos,a,g⟩).run P w=.ok (.value u) w/\R μ v u
structure Cells(w:uC)(pl:Pl)(vs:LQ uB):Prop where
 get:∀i u,vs[i]?=some u->w.cell? ⟨pl.b,pl.base+i,none⟩=some u
 one:∀u∈vs,u.oneCell'=true
def QU{pl w}{ty:Nat}{fz pre vs post}(h1:w.heap[pl.b]?=some (.cells ⟨pre++(vs++post)⟩ ty fz))(h2:pre.length=pl.base)(h:∀u∈vs,u.oneCell'=true):Cells w pl vs:=by
 refine⟨λi u H=>?_,h⟩;simp only[World.cell?,h1];have hl:=(zad.1 H).1;rw[zaa (by simp)]
 grind
def va{pl w ty cs}(h:Row μ pl w ty cs):∃vs,Rs μ cs vs/\Cells w pl vs:=by
 obtain⟨fz,pre,vs,post,h1,h0,h2,h3,h4,H⟩:=h;refine⟨vs,h4,⟨λi u a=>?_,H⟩⟩;simp only[World.cell?,h1];have hl:=(zad.1 a).1;rw[zaa (by simp)]
 grind
def N5{o cs B w}(g:row h o=some cs)(hH:HR μ B h.get w):∃pl ty,μ o=some pl/\Row μ pl w ty cs:=by
 unfold row at g;split at g
 .rename_i ty sz v H;cases g;obtain⟨pl,h1,_,_,h2⟩:=hH.ob o _ H
  grind
 .rename_i v H;cases g;obtain⟨pl,h1,ty,h2⟩:=hH.ob o _ H
  grind
 grind
def LL{o off n k}(hm:UX h o off n k=.v r):∃cs,row h o=some cs/\off+n<=cs.length/\k ((cs.drop off).take n)=.v r:=by
 unfold UX at hm;split at hm
 .rename_i cs H;split at hm
  .rename_i a;rw[Cc,Hn]at hm;simp_all
  .cases hm
 .cases hm
def qz{w pl vs}(H:Cells w pl vs){off n}(hn:off+n<=vs.length):(loadCells ⟨pl.b,pl.base+off,none⟩ n).run P w=.ok ⟨(vs.drop off).take n⟩ w:=by
 have:=kb (P:=P) (w:=w) (b:=pl.b) (off:=pl.base+off) (n:=n) (vs:=(vs.drop off).take n) (by grind) (λj u h=>by
  rw[zah]at h;split at h
  .rw[zbd]at h;rw[zcw];exact H.get _ _ h
  grind)
 exact this
def SV(hT:qn P T){t x k}(H:(lE env x λx=>NZ T h t x k)=.v r):∃v,k v=.v r/\Wh P env h (.load t x) v:=by
 obtain⟨a,h1,H⟩:=eZ H;unfold NZ at H;split at H
 .rename_i o off;split at H
  .rename_i i hi;obtain⟨inf,d,E,j,rfl⟩:=ti hT hi;split at H
   .rename_i q;have ha:IY (some d)=false:=by
     rcases SU j with⟨h1,h2⟩|⟨h1,h2⟩
     .rw[h1]at q;cases q
     omega
    split at H
    .rename_i cs s;rw[cV]at H;split at H
     .rename_i c F;refine⟨_,H,λμ B w tmps G ty pos I g y A=>?_⟩;have b:=eT A h1;generalize e:Act.eval ⟨tmps,[]⟩ x=u at b;obtain⟨pl,K,C,D⟩:=N5 s y;obtain⟨vs,l,m⟩:=va D;cases b with
      | p _ f =>
       rw[C]at f;cases f;obtain⟨z,J,L⟩:=l.get F;refine⟨z,?_,L⟩;have:=m.get _ _ J;simp only[execOp,e,Instr.loadAt,Instr.sureAddr,Sem.run_bind,Sem.run_pure,Result.andThen_ok,loadVar,K0 t w d j,ha,zay,zbq];simp_all
     .cases H
    .cases H
   .rename_i q;have ha:IY (some d)=true:=by
     rcases SU j with⟨h1,h2⟩|⟨h1,h2⟩
     .exact h2
     simp_all
    obtain⟨cs,s,M,H⟩:=LL H;refine⟨_,H,λμ B w tmps G ty pos I g y A=>?_⟩;have b:=eT A h1;generalize e:Act.eval ⟨tmps,[]⟩ x=u at b;obtain⟨pl,K,C,D⟩:=N5 s y;obtain⟨vs,l,m⟩:=va D;cases b with
    | p _ f =>
     rw[C]at f;cases f;have hl:=l.len;refine⟨.agg ⟨(vs.drop off).take inf.size⟩,?_,.a ((l.drop off).take _) λu e=>m.one u (zca (zco e))⟩;simp only[execOp,e,Instr.loadAt,Instr.sureAddr,Sem.run_bind,Sem.run_pure,Result.andThen_ok,loadVar,K0 t w d j,ha,zce,cM E,qz m (off:=off) (n:=inf.size) (by simp_all)]
  .cases H
 .cases H
def SX{o es ck B w}(a:h.get o=some (.m es ck))(hH:HR μ B h.get w):∃pl H,μ o=some pl/\w.heap[pl.b]?=some (.map ⟨H⟩ ck)/\RM μ es H:=by
 obtain⟨pl,h1,H,h2,h3,_⟩:=hH.ob o _ a;simp_all
def rd_len(hT:qn P T){x xs}{ts:uD uE}{t}{l:LQ Nat}{i k}(K:xs.toList=[x])(U:ts.toList=t::l)(hi:T.get t=some i)
  (o:(lE env x λx=>oLen i.k h x k)=.v r):∃v,k v=.v r/\Wh P env h (.call ⟨.builtin .len,xs,ts⟩) v:=by
 obtain⟨a,h1,H⟩:=eZ o;clear o;obtain⟨inf,d,z,n,rfl⟩:=ti hT hi;obtain⟨xs⟩:=xs;obtain⟨ts⟩:=ts;simp only at K U;subst K;subst U;have R:(⟨t::l⟩:uD uE)[0]?=some t:=rfl;have f:∀{tmps:uD uB} {u:uB},Act.eval ⟨tmps,[]⟩ x=u->((⟨[x]⟩:uD uH).map (Act.eval ⟨tmps,[]⟩))[0]?=some u:=λe=>by simp[e]
 unfold oLen at H;simp only at H;split at H
 .split at H
  .rename_i hk;have:=AN hk;subst this;rw[SQ]at H;refine⟨_,H,λμ B w tmps p ty pos q g y j=>?_⟩;have b:=eT j h1;generalize m:Act.eval ⟨tmps,[]⟩ x=u at b;cases b with
   | s bs =>
    refine⟨.int .i64 (bs.length:Int),?_,?_⟩
    .simp only[execOp,resolve,Sem.run_bind,Sem.run_pure,Result.andThen_ok,invoke,builtin,Builtin.len_,R,f m,run_underlying n];rfl
    .simp only[zcb,zbh];exact .c _
  .cases H
 .split at H
  .rename_i hk;obtain⟨rfl,_⟩:=ya hk;refine⟨_,H,λμ B w tmps p ty pos q g y j=>?_⟩;have b:=eT j h1;generalize m:Act.eval ⟨tmps,[]⟩ x=u at b;cases b with
   | l=>exact⟨_,by simp only[execOp,resolve,Sem.run_bind,Sem.run_pure,Result.andThen_ok,invoke,builtin,Builtin.len_,R,f m,run_underlying n];rfl,.c _⟩
  .cases H
 .split at H
  .rename_i hk;obtain⟨rfl,_⟩:=ya hk;refine⟨_,H,λμ B w tmps p ty pos q g y j=>?_⟩;have b:=eT j h1;generalize m:Act.eval ⟨tmps,[]⟩ x=u at b;cases b;exact⟨.int .i64 0,by simp only[execOp,resolve,Sem.run_bind,Sem.run_pure,Result.andThen_ok,invoke,builtin,Builtin.len_,R,f m,run_underlying n];rfl,.c _⟩
  .cases H
 .cases H
def toBs:∀{cs k},UY.bs cs k=.v r->∃bs:LQ uA,k (bs.map UInt8.toNat)=.v r/\∀μ us,Rs μ cs us->us=bs.map λb=>.int .u8 b.toNat
 | [],k,h=>⟨[],h,λμ us hs=>by cases hs;rfl⟩
 | c::cs,k,h=>by
  unfold UY.bs toB at h;split at h
  .rename_i n;split at h
   .rename_i hn;have hn:=zae hn;obtain⟨bs,h1,h2⟩:=toBs h;have H:(UInt8.ofNat n).toNat=n:=by simp;omega
    refine⟨UInt8.ofNat n::bs,by rw[zbb,H];exact h1,λμ us hs=>?_⟩
    cases hs with
    | cons a ht =>
     cases a;rw[h2 μ _ ht,zbb,H];rfl
   .cases h
  .cases h
def src_v{sz x k}(H:src h sz x k=.v r):(∃l:LQ Nat,x=.s l/\sz=1/\k l.length (l.map λb=>.c (.int .u8 (.ofNat b)))=.v r)∨(x=.c (.slice none 0 0)∨x=.z)/\k 0 []=.v r ∨
  ∃o off n c cs,x=.l o off n c/\row h o=some cs/\off+n*sz<=cs.length/\k n ((cs.drop off).take (n*sz))=.v r:=by
 unfold src at H;split at H
 .rename_i l;split at H
  .rename_i hs;rw[FL (f:=λb=>V.c (.int .u8 (.ofNat b))) (λ_ _=>rfl),SQ,zbh]at H;simp_all
  .cases H
 .simp_all
 .simp_all
 .rename_i o off n c;obtain⟨cs,h1,h2,h3⟩:=LL H
  grind
 .cases H
def u8T_v(hT:qn P T){e}(hu:u8T T e=true):P.underlying e=some (.int .u8):=by
 unfold u8T at hu;split at hu
 .rename_i i hi;obtain⟨inf,d,H,h,rfl⟩:=ti hT hi;split at hu
  .rename_i hk;rw[h,LK hk]
  grind
 grind
def rd_str(hT:qn P T){s t e:Nat}(hs:P.underlying s=some (.slice e))(d:P.underlying e=some (.int .u8))(ht:P.underlying t=some .string){x k}(p:(lE env x λx=>UY h x k)=.v r):∃v,k v=.v r/\Wh P env h (.convert s t x) v:=by
 obtain⟨a,h1,H⟩:=eZ p;clear p;unfold UY at H;split at H
 .cases H
 rename_i D;rcases src_v H with⟨l,rfl,_,_⟩|⟨E,H⟩|⟨o,off,n,c,cs,rfl,F,G,H⟩
 .simp_all
 .refine⟨_,H,λμ B w tmps I ty pos J g q i=>?_⟩;have f:=eT i h1;generalize j:Act.eval ⟨tmps,[]⟩ x=u at f;refine⟨.string ⟨⟨[]⟩⟩,?_,.s []⟩;rcases E with rfl|rfl<;>cases f<;>simp only[execOp,j,convert,Sem.run_bind,run_underlying hs,run_underlying ht,run_underlying d,Result.andThen_ok]<;>rfl
 .obtain⟨bs,hk,m⟩:=toBs H;refine⟨_,hk,λμ B w tmps I ty pos J g q i=>?_⟩;have f:=eT i h1;generalize j:Act.eval ⟨tmps,[]⟩ x=u at f;obtain⟨pl,Q,K,L⟩:=N5 F q;obtain⟨vs,y,M⟩:=va L;cases f with
  | l _ _ _ kc z Y R =>
   rw[K]at z;cases z;have hl:=y.len;have N:=m μ _ ((y.drop off).take (n*1));have hlen:bs.length=n:=by
    have:=zaq List.length N
    grind
   refine⟨.string ⟨⟨bs⟩⟩,?_,.s bs⟩;have O:=qz (P:=P) M (off:=off) (n:=n) (by omega);have C:=tq (P:=P) (w:=w) (A:=some ⟨pl.b,pl.base+off,none⟩) (c:=kc) (l:=bs) (λe=>by cases e) (λa S=>by
    simp_all)
   rw[hlen]at C;simp only[execOp,j,convert,Sem.run_bind,run_underlying hs,run_underlying ht,run_underlying d,Result.andThen_ok];rw[C];rfl
end rd
section rd
variable {P:uG}{T:Tr TI}{r:S1}{μ:Mp}{env:Tr V}{tmps:uD uB}{h:Tr Ob}
def Eo(env:Tr V):Option uH->Option V->Prop
 | none,none=>True
 | some x,some v=>ev env x=some v
 | _,_=>False
def Yn{x k}(h:opV env x k=.v r):∃v,Eo env x v/\k v=.v r:=by
 unfold opV at h;split at h
 .exact⟨none,trivial,h⟩
 .obtain⟨v,h1,h2⟩:=eZ h;exact⟨some v,h1,h2⟩
def mc{j}{a y:Nat} c(h:a<=y)(w):(Instr.sliceBound (.int j a) y c).run P w=.ok a w:=by
 unfold Instr.sliceBound;have:(0:Int)<=(a:Int)/\(a:Int)<=(y:Int):=by omega
 simp only[asIntOf,Sem.run_bind,Sem.run_pure,Result.andThen_ok,zab this,zcl]
def Yo{x v d a}(he:ER μ env tmps)(hx:Eo env x v)(ha:LB v d=some a):x=none/\a=d∨∃o j,x=some o/\Act.eval ⟨tmps,[]⟩ o=.int j a:=by
 cases x with
 | none =>
  cases v with
  | none=>cases ha;simp_all
  | some v=>cases hx
 | some o =>
  cases v with
  | none=>cases hx
  | some v =>
   obtain⟨j,h⟩:=Ht ha (eT he hx);simp_all
def pM{b len cap lo hi m a v H x y z}(he:ER μ env tmps)(h1:Eo env lo a)(h2:Eo env hi v)(h3:Eo env m H)
  (f:LB a 0=some x) (g:LB v len=some y) (i:H=none/\z=cap∨∃q,H=some q/\toN q=some z/\v≠none) (U:x<=y) (h:y<=z) (c:z<=cap) w :
  (Instr.sliceBounds b len cap (lo.map (Act.eval ⟨tmps,[]⟩)) (hi.map (Act.eval ⟨tmps,[]⟩)) (m.map (Act.eval ⟨tmps,[]⟩))).run P w=.ok (x,y,z) w:=by
 have k:=Yo he h1 f;have k2:=Yo he h2 g;have k3:(m=none/\z=cap)∨∃o j,m=some o/\Act.eval ⟨tmps,[]⟩ o=.int j (z:Int)/\hi≠none:=by
  rcases i with⟨e,ez⟩|⟨q,e,eq,hn⟩
  .subst e;cases m with
   | none=>simp_all
   | some o=>cases h3
  .subst e;cases m with
   | none=>cases h3
   | some o =>
    obtain⟨j,l⟩:=Ht eq (eT he h3);refine .inr ⟨o,j,rfl,l,λe=>?_⟩;subst e;cases v with
    | none=>grind
    | some _=>cases h2
 unfold Instr.sliceBounds;rcases k3 with⟨rfl,rfl⟩|⟨r,s,rfl,d,t⟩
 .rcases k2 with⟨rfl,rfl⟩|⟨o2,n,rfl,q2⟩<;>rcases k with⟨rfl,rfl⟩|⟨o1,p,rfl,q1⟩ <;>
   first
   | simp only[Option.map_none,Option.map_some,q1,q2,Sem.run_bind,Sem.run_pure,Result.andThen_ok,mc _ h,mc _ U]
   | simp only[Option.map_none,Option.map_some,q2,Sem.run_bind,Sem.run_pure,Result.andThen_ok,mc _ h]
   | simp only[Option.map_none,Option.map_some,q1,Sem.run_bind,Sem.run_pure,Result.andThen_ok,mc _ U]
   | simp_all
 .rcases k2 with⟨rfl,rfl⟩|⟨o2,n,rfl,q2⟩
  .simp_all
  .rcases k with⟨rfl,rfl⟩|⟨o1,p,rfl,q1⟩ <;>
   first
   | simp only[Option.map_none,Option.map_some,q1,q2,d,Sem.run_bind,Sem.run_pure,Result.andThen_ok,mc _ c,mc _ h,mc _ U]
   | simp only[Option.map_none,Option.map_some,q2,d,Sem.run_bind,Sem.run_pure,Result.andThen_ok,mc _ c,mc _ h]
def QV{o off n ez b B c w kc pl}(H:capB h o off n ez b c=true)(hH:HR μ B h.get w)(e:μ o=some pl)(hn:n<=kc)(f:c=some kc∨c=none/\off+kc*pl.sz=pl.ext):b<=kc/\(c=none->ez=pl.sz):=by
 unfold capB at H;rcases f with rfl|⟨rfl,hx⟩
 .simp_all
 .simp only at H;split at H
  .rename_i ty sz cs g;split at H
   .rename_i d;have d:=zai d;obtain⟨pl',q1,q2,_,fz,pre,vs,post,_,_,_,i,q,_⟩:=hH.ob o _ g;rw[e]at q1;cases q1;have a:ez=pl.sz:=by rw[q2,d]
    refine⟨?_,λ_=>a⟩;split at H
    .rename_i h1;have:=zae h1;omega
    .split at H
     .rename_i h1;have h1:=zae h1;have h2:=zae H;have:=q.len;rw[a]at h1 h2;have:off+b*pl.sz<=off+kc*pl.sz:=by omega
      exact Nat.le_of_mul_le_mul_right (by omega) (show 0<pl.sz by omega)
     grind
   grind
  grind
def mkL_v{o off a b m ez k}(H:mkL o off a b m ez k=.v r)(p:a<=b)(d:b<=m):∃v,k v=.v r/\∀μ pl,μ o=some pl->R μ v (.slice (if m=a then some ⟨pl.b,pl.base+off,none⟩else some (Addr.add ⟨pl.b,pl.base+off,none⟩ (a*ez))) (b-a) (m-a)):=by
 unfold mkL at H;split at H
 .rename_i h;have h:=zai h;refine⟨_,H,λμ pl c=>?_⟩;rw[zab h];have f:b-a=0:=by omega
  have g:m-a=0:=by omega
  rw[f,g];exact .l off 0 _ 0 c (zag _) (.inl rfl)
 .rename_i h;have i:¬m=a:=λe=>by simp_all
  rw[dI,dI,dI]at H;refine⟨_,H,λμ pl c=>?_⟩;rw[zaa i,mX,zcw];exact .l _ _ _ (m-a) c (by omega) (.inl rfl)
def slL_v{t e:Nat}{ie}(hu:P.underlying t=some (.slice e)∨∃n,P.underlying t=some (.array n e))(K:P.info? e=some ie){o off n c lo hi C D E G k}
  (h2:Eo env lo D) (h3:Eo env hi E) (h4:Eo env C G) (H:oSlL h ie.size o off n c D E G k=.v r) :
  ∃v,k v=.v r/\∀μ B w tmps pl kc,HR μ B h.get w->ER μ env tmps->μ o=some pl->n<=kc->c=some kc∨c=none/\off+kc*pl.sz=pl.ext ->
   ∃l b m,l<=b/\b<=m/\m<=kc/\(∀bb,(Instr.sliceBounds bb n kc (lo.map (Act.eval ⟨tmps,[]⟩)) (hi.map (Act.eval ⟨tmps,[]⟩)) (C.map (Act.eval ⟨tmps,[]⟩))).run P w=.ok (l,b,m) w) /\
    R μ v (.slice (if m=l then some ⟨pl.b,pl.base+off,none⟩else some (Addr.add ⟨pl.b,pl.base+off,none⟩ (l*ie.size))) (b-l) (m-l)):=by
 unfold oSlL at H;split at H
 .rename_i a ha;split at H
  .rename_i b y;split at H
   .rename_i p;have p:=zae p;split at H
    .split at H
     .rename_i F;split at H
      .rename_i I;obtain⟨v,q1,q2⟩:=mkL_v (b:=b) H p (zae F);refine⟨v,q1,λμ B w tmps pl kc s j i hn f=>?_⟩;rcases f with f|⟨f,_⟩<;>cases f;have d:b<=I:=zae F;exact⟨a,b,I,p,d,zag _,λbb=>pM j h2 h3 h4 ha y (.inl ⟨rfl,rfl⟩) p d (zag _) w,q2 μ pl i⟩
      .split at H
       .rename_i A;have A:=zai A;refine⟨_,H,λμ B w tmps pl kc s j i hn f=>?_⟩;obtain⟨d,u⟩:=QV F s i hn f;refine⟨a,b,kc,p,d,zag _,λbb=>pM j h2 h3 h4 ha y (.inl ⟨rfl,rfl⟩) p d (zag _) w,?_⟩;subst A;rw[Nat.sub_self];split
        .exact .z _ _ _
        .rw[mX];exact .z _ _ _
       .rename_i A;have L:¬a=b:=λe=>by simp_all
        rw[dI,dI]at H;refine⟨_,H,λμ B w tmps pl kc s j i hn f=>?_⟩;obtain⟨d,u⟩:=QV F s i hn f;refine⟨a,b,kc,p,d,zag _,λbb=>pM j h2 h3 h4 ha y (.inl ⟨rfl,rfl⟩) p d (zag _) w,?_⟩;rw[zaa (by omega),mX,zcw];refine .l _ _ _ (kc-a) i (by omega) (.inr ⟨rfl,?_⟩);rcases f with f|⟨_,f⟩
        .cases f
        .rw[u rfl,←f,Nat.sub_mul];have:a*pl.sz<=kc*pl.sz:=zbn _ (by omega);omega
     .cases H
    .rename_i q;split at H
     .cases H
     .split at H
      .rename_i m J;split at H
       .rename_i g;have g:=zae g;split at H
        .rename_i F;obtain⟨v,q1,q2⟩:=mkL_v (b:=b) H p g;refine⟨v,q1,λμ B w tmps pl kc s j i hn f=>?_⟩;obtain⟨x,_⟩:=QV F s i hn f;exact⟨a,b,m,p,g,x,λbb=>pM j h2 h3 h4 ha y (.inr ⟨q,rfl,J,by simp⟩) p g x w,q2 μ pl i⟩
        .cases H
       .cases H
      .cases H
   .cases H
  .cases H
 .cases H
def JY bs(a b):(ByteArray.mk ⟨bs⟩).extract a b=ByteArray.mk ⟨(bs.drop a).take (b-a)⟩:=(ByteArray.extract_mk bs a b).trans rfl
def Yp(hT:qn P T){t x lo hi D k}(R:(lE env x λx=>opV env lo λlo=>opV env hi λhi=>opV env D λD=>oSl T h t x lo hi D k)=.v r):∃v,k v=.v r/\Wh P env h (.slice t x lo hi D) v:=by
 obtain⟨a,h1,S⟩:=eZ R;obtain⟨vl,h2,F⟩:=Yn S;obtain⟨vh,h3,G⟩:=Yn F;obtain⟨vm,h4,H⟩:=Yn G;clear R S F G;unfold oSl at H;split at H
 .rename_i i hi';obtain⟨inf,d,e1,E,rfl⟩:=ti hT hi';split at H
  .rename_i hk;have:=AN hk;subst this;split at H
   .rename_i l;split at H
    .unfold oSlS at H;split at H
     .rename_i U ha;split at H
      .rename_i W V;split at H
       .rename_i A;simp only[zam]at A;have l1:=zae A.1;have l2:=zae A.2;rw[Cc,Hn]at H;refine⟨_,H,λμ B w tmps J ty pos K g I f=>?_⟩;have j:=eT f h1;generalize C:Act.eval ⟨tmps,[]⟩ x=u at j;cases j with
        | s bs =>
         have L:D=none:=by cases D<;>first|rfl|cases h4
         subst L;have q:=pM (P:=P) (b:=false) (len:=bs.length) (cap:=bs.length) (z:=bs.length) f h2 h3 h4 ha (by simp_all) (.inl ⟨rfl,rfl⟩) l1 (by simp_all) (zag _) w;simp only[Option.map_none]at q;refine⟨.string ⟨⟨(bs.drop U).take (W-U)⟩⟩,?_,?_⟩
         .have dE:(⟨⟨bs⟩⟩:ByteArray).size=bs.length:=by simp[ByteArray.size]
          simp only[execOp,C,Instr.sliceAt,Sem.run_bind,run_underlying E,Result.andThen_ok,Instr.slice,Option.map_none,Option.isSome_none,zay,zbq,Sem.run_pure,dE,q,JY]
         .rw[←zfs,←zfe];exact .s _
       .cases H
      .cases H
     .cases H
    .cases H
   .cases H
  .rename_i e hk;obtain⟨rfl,ie,X,y,M⟩:=ya hk;split at H
   .rename_i o off n c;simp only[FJ,rF y]at H;obtain⟨v,q1,q2⟩:=slL_v (P:=P) (.inl E) y h2 h3 h4 H;refine⟨v,q1,λμ B w tmps J ty pos K g I f=>?_⟩;have j:=eT f h1;generalize C:Act.eval ⟨tmps,[]⟩ x=u at j;cases j with
    | l _ _ _ kc N Y Z =>
     rename_i pl;obtain⟨l,b,m,b1,b2,b3,O,Q⟩:=q2 μ B w tmps pl kc I f N Y Z;refine⟨_,?_,Q⟩;simp only[execOp,C,Instr.sliceAt,Sem.run_bind,run_underlying E,Result.andThen_ok,Instr.slice,O,cM y,Sem.run_pure,Option.map_some]
   .split at H
    .split at H
     .rename_i ha;split at H
      .rename_i V;refine⟨_,H,λμ B w tmps J ty pos K g I f=>?_⟩;have j:=eT f h1;generalize C:Act.eval ⟨tmps,[]⟩ x=u at j;cases j;refine⟨.slice none 0 0,?_,.c _⟩;have q:=pM (P:=P) (b:=true) (len:=0) (cap:=0) (z:=0) f h2 h3 h4 ha V (.inl ⟨rfl,rfl⟩) (zag _) (zag _) (zag _) w;simp only[execOp,C,Instr.sliceAt,Sem.run_bind,run_underlying E,Result.andThen_ok,Instr.slice,q,cM y,Sem.run_pure,zce]
      .cases H
     .cases H
    .cases H
   .cases H
  .rename_i n e hk;obtain⟨rfl,ie,X,y,M⟩:=Yh hk;split at H
   .rename_i o off;simp only[FJ,rF y]at H;obtain⟨v,q1,q2⟩:=slL_v (P:=P) (.inr ⟨n,E⟩) y h2 h3 h4 H;refine⟨v,q1,λμ B w tmps J ty pos K g I f=>?_⟩;have j:=eT f h1;generalize C:Act.eval ⟨tmps,[]⟩ x=u at j;cases j with
    | p _ N =>
     rename_i pl;obtain⟨l,b,m,b1,b2,b3,O,Q⟩:=q2 μ B w tmps pl n I f N (zag _) (.inl rfl);refine⟨_,?_,Q⟩;simp only[execOp,C,Instr.sliceAt,Sem.run_bind,run_underlying E,Result.andThen_ok,Instr.sureAddr,O,cM y,Sem.run_pure]
     grind
   .cases H
  .cases H
 .cases H
end rd
section keys
variable {P:uG}{T:Tr TI}{r:S1}{μ:Mp}{env:Tr V}{tmps:uD uB}{h:Tr Ob}
inductive Key (P:uG) (t:Nat):V->Prop
 | i {j j':IntKind} (n:Int) (h:P.underlying t=some (.int j)):Key P t (.c (.int j' n))
 | s (l:List Nat) (h:P.underlying t=some .string):Key P t (.s l)
 | a {cs:List V} {fs:uD Field} {ks:List FK} (h:P.underlying t=some (.struct fs)) (hk:jd P t=some ks) (hf:fits ks cs=true):Key P t (.a cs)
def N6(hT:qn P T){t x}(hk:LC T t x=true):Key P t x:=by
 unfold LC at hk;split at hk
 .rename_i i hi;obtain⟨inf,d,b,e,rfl⟩:=ti hT hi;split at hk
  .split at hk
   .rename_i h;exact .i _ (e.trans (zaq some (LK h)))
   grind
  .split at hk
   .rename_i h;exact .s _ (e.trans (zaq some (AN h)))
   grind
  .split at hk
   .rename_i h;obtain⟨F,h1,_,_⟩:=Yj h;split at hk
    .rename_i ks H;exact .a (e.trans (zaq some h1)) H hk
    grind
   grind
  grind
 grind
def U6{t:Nat}{f ks}(hu:P.underlying t=some (.struct f))(hk:jd P t=some ks):qs P 0 f.toList=some ks:=by
 unfold jd at hk;rw[hu]at hk;simp_all
def yV{t x u}(hk:Key P t x)(H:R μ x u) b(w):(Instr.checkKey b 10000 t u).run P w=.ok () w:=by
 cases hk with
 | i n h =>
  cases H;have:∀m j n,(Instr.checkKey b (m+1) t (.int j n)).run P w=.ok () w:=λm j n=>by simp[Instr.checkKey,run_underlying h]
  simp_all
 | s l h =>
  cases H;have:∀m s,(Instr.checkKey b (m+1) t (.string s)).run P w=.ok () w:=λm s=>by simp[Instr.checkKey,run_underlying h]
  simp_all
 | a h hk c =>
  rename_i cs f ks;cases H with
  | a hs h1 =>
   rename_i vs;show(Instr.checkKey b (9999+1) t (.agg ⟨vs⟩)).run P w=.ok () w;have:=EO (P:=P) b 9998 w ⟨vs⟩ f.toList 0 ks vs (U6 h hk) (wz c hs) (λj v hv=>by simp_all);unfold Instr.checkKey;simp only[Sem.run_bind,run_underlying h,Result.andThen_ok];rw[←Array.forIn_toList,show(9999:Nat)=9998+1 from rfl,this];rfl
def eqC_int{j n b}(h:eqC (.int j n) b=some true):b=.int j n:=by
 cases b with
 | int k m =>
  unfold eqC at h
  grind
 | _=>cases h
def key_eq{t x y u z}(hx:Key P t x)(hy:Key P t y)(hu:R μ x u)(d:R μ y z)(he:Pz x y=some true):z=u:=by
 have g:∀{ks:LQ FK} {us H:LQ uB},fitAll ks us=true->fitAll ks H=true->jy us H=true->H=us:=by
  intro ks
  induction ks with
  | nil =>
   intro us H h1 h2 h3;cases us<;>cases H<;>first|rfl|(cases h1;done)|(cases h2;done)
  | cons k ks j =>
   intro us H h1 h2 h3;cases us with
   | nil=>cases h1
   | cons u us =>
    cases H with
    | nil=>cases h2
    | cons z H =>
     simp only[fitAll,zam]at h1 h2;simp only[jy,zam]at h3;rw[j h1.2 h2.2 h3.2];congr 1;replace h1:=h1.1;replace h2:=h2.1;replace h3:=h3.1;cases k<;>cases u<;>simp[mq]at h1<;>cases z<;>simp[mq]at h2<;>simp[V5]at h3
     .simp_all
     .grind
     .rename_i s f;obtain⟨⟨s⟩⟩:=s;obtain⟨⟨f⟩⟩:=f;rw[mb,mb]at h3
      grind
 cases hx with
 | i n h =>
  cases hu;cases y with
  | c b =>
   have:=eqC_int he;subst this;cases d;rfl
  | _=>cases he
 | s l h =>
  cases hu;cases y with
  | s b =>
   cases d;simp only[Pz,eq1,Option.some.injEq,Hs,zes]at he;simp_all
  | _=>cases he
 | a h hk m =>
  cases hu with
  | a hs _ =>
   simp only[Pz]at he;split at he
   .rename_i ys;cases hy with
    | a h' M e =>
     rw[hk]at M;cases M;cases d with
     | a v _ =>
      have h1:=wz m hs;have h2:=wz e v;have h3:=SS he hs v;rw[g h1 h2 h3]
   grind
def Yq{t x y u z}(hx:Key P t x)(hy:Key P t y)(hu:R μ x u)(H:R μ y z)(he:Pz x y=some true):Instr.sameBits 10000 z u=true:=by
 rw[key_eq hx hy hu H he];cases hx with
 | i n h=>cases hu;simp[Instr.sameBits]
 | s l h=>cases hu;exact BK (k:=.s) rfl _
 | a h hk b =>
  cases hu with
  | a hs _ =>
   have:=zP (wz b hs) 9999;show Instr.sameBits (9999+1) _ _=true;simp only[Instr.sameBits];simp_all
end keys
section find
variable {P:uG}{T:Tr TI}{r:S1}{μ:Mp}{env:Tr V}{tmps:uD uB}{h:Tr Ob}
def fx(x:V):List (V×Nat×V)->Option Nat
 | []=>none
 | (y,_,_)::es=>match Pz x y with
  | some true=>some 0
  | _=>(fx x es).map (·+1)
def fx_lt{x:V}:∀{es:LQ (V×Nat×V)} {i:Nat},fx x es=some i->∃y b v,es[i]?=some (y,b,v)/\Pz x y=some true
 | [],_,h=>by cases h
 | (y,b,v)::es,i,h=>by
  unfold fx at h;split at h
  .rename_i hy;cases h;simp_all
  .cases H:fx x es with
   | none=>rw[H]at h;cases h
   | some j =>
    rw[H]at h;cases h;obtain⟨a,b',v',h1,h2⟩:=fx_lt H;simp_all
def Hu{x:V}:∀{es:LQ (V×Nat×V)},SK x es=(fx x es).bind λi=>(es[i]?).map λe=>e.2
 | []=>rfl
 | (y,b,v)::es=>by
  unfold SK fx;cases h:Pz x y with
  | none=>simp only[];rw[Hu];cases fx x es<;>simp
  | some q=>cases q with
   | true=>rfl
   | false=>simp only[];rw[Hu];cases fx x es<;>simp
theorem LM{β:Type}{x v:V}{ck:Nat}:∀{es:List (V×Nat×V)} {k:List (V×Nat×V)->Nat->X β},XV x v ck es k=match fx x es with
  | some i=>k (es.modify i λe=>(x,e.2.1,v)) ck
  | none=>k (es++[(x,ck,v)]) (ck+1)
 | [],k=>by unfold XV fx;exact dI _ _
 | (y,b,u)::es,k=>by
  unfold XV fx;cases h:Pz x y with
  | none=>simp only[];rw[LM];cases fx x es<;>rfl
  | some q=>cases q with
   | true=>rfl
   | false=>simp only[];rw[LM];cases fx x es<;>rfl
def RM.get:∀{l:LQ (V×Nat×V)} {m:LQ MapEntry},RM μ l m->∀{i:Nat} {y v:V} {b:Nat},l[i]?=some (y,b,v)->∃e,m[i]?=some e/\R μ y e.key/\R μ v e.val/\e.born=b
 | _,_,.nil,_,_,_,_,h=>by simp at h
 | _,_,.cons h1 h2 h3 t,i,y,v,b,e=>by
  cases i with
  | zero=>simp_all
  | succ i=>simp at e;simpa using t.get e
def yb{t b:Nat}{x y v:V}{es:LQ (V×Nat×V)}(hk:wy T t x ((y,b,v)::es)=true):LC T t y=true/\(∃q,Pz x y=some q)/\wy T t x es=true:=by
 unfold wy at hk
 grind
def Yr{kd:TypeDesc}{t:Nat}{x:V}{u:uB}(hn:∀y z q,LC T t y=true->Pz x y=some q->R μ y z->Instr.sameNow kd u z=some q):
  ∀{es:LQ (V×Nat×V)} {h:LQ MapEntry} (i:Nat),wy T t x es=true->RM μ es h->Instr.findNow kd u h i=some ((fx x es).bind λj=>(h[j]?).map λm=>(i+j,m.val))
 | _,_,i,hk,.nil=>rfl
 | _,_,i,hk,.cons h1 h2 h3 tl=>by
  obtain⟨k,⟨q,k2⟩,k3⟩:=yb hk;have:=hn _ _ q k k2 h1;unfold Instr.findNow fx;rw[this,k2];cases q with
  | true=>simp
  | false =>
   simp only[];rw[Yr hn (i+1) k3 tl];cases fx x _ with
   | none=>rfl
   | some j =>
    grind
def ask_v{t:Nat}{x:V}{u:uB}{w:uC}(hn:∀y z q,LC T t y=true->Pz x y=some q->R μ y z->(Op.equal t u z).run P w=.ok q w):
  ∀{es:LQ (V×Nat×V)} {h:LQ MapEntry} (i:Nat),wy T t x es=true->RM μ es h->(Instr.findAsking t u h i).run P w=.ok ((fx x es).bind λj=>(h[j]?).map λm=>(i+j,m.val)) w
 | _,_,i,hk,.nil=>rfl
 | _,_,i,hk,.cons h1 h2 h3 tl=>by
  obtain⟨k,⟨q,k2⟩,k3⟩:=yb hk;have:=hn _ _ q k k2 h1;unfold Instr.findAsking fx;simp only[Sem.run_bind,this,k2,Result.andThen_ok];cases q with
  | true=>simp
  | false =>
   simp only[zay,zbq];rw[ask_v hn (i+1) k3 tl];cases fx x _ with
   | none=>rfl
   | some j =>
    grind
def LN{t:Nat}{x:V}{es:LQ (V×Nat×V)}(hk:N0 T t x es=true):LC T t x=true/\wy T t x es=true:=by
 unfold N0 at hk
 grind
def Ys{j:IntKind}{n:Int}{b:uB}{q:Bool}(h:eqC (.int j n) b=some q):∃m,b=.int j m/\q=(n==m):=by
 cases b with
 | int k m =>
  unfold eqC at h;simp only at h;split at h
  .rename_i H;simp only[Option.some.injEq]at h;have:=zbk H;subst this
   grind
  .cases h
 | _=>cases h
def LO(hT:qn P T){t:Nat}{x:V}{u:uB}{es:LQ (V×Nat×V)}{H:LQ MapEntry}(hk:N0 T t x es=true)(hu:R μ x u)(hm:RM μ es H)(w:uC):
  (Instr.findKey t u H).run P w=.ok ((fx x es).bind λi=>(H[i]?).map λm=>(i,m.val)) w:=by
 obtain⟨k,k2⟩:=LN hk;have hK:=N6 hT k;unfold Instr.findKey;cases hK with
 | i n h =>
  cases hu;rename_i j o;have:=Yr (T:=T) (μ:=μ) (kd:=.int j) (t:=t) (u:=.int o n) (λy z q h1 h2 h3=>by
   cases y with
   | c b =>
    obtain⟨m,rfl,rfl⟩:=Ys h2;cases h3;simp[Instr.sameNow]
   | _=>cases h2) 0 k2 hm
  simp only[Sem.run_bind,run_underlying h,Result.andThen_ok,this,Sem.run_pure,zbh]
 | s l h =>
  cases hu with
  | s bs =>
   have:=Yr (T:=T) (μ:=μ) (kd:=.string) (t:=t) (u:=.string ⟨⟨bs⟩⟩) (λy z q h1 h2 h3=>by
    cases y with
    | s b =>
     cases h3 with
     | s p =>
      simp only[Pz,eq1,Option.some.injEq,Hs]at h2;subst h2;simp only[Instr.sameNow,Option.some.injEq];rw[beq_toListBytes,mb,mb]
    | _=>cases h2) 0 k2 hm
   simp only[Sem.run_bind,run_underlying h,Result.andThen_ok,this,Sem.run_pure,zbh]
 | a h g r =>
  cases hu with
  | a hs h1 =>
   rename_i cs A ks vs;have d:=ask_v (T:=T) (μ:=μ) (P:=P) (t:=t) (u:=.agg ⟨vs⟩) (w:=w) (λy z q h1 h2 h3=>by
    have hy:=N6 hT h1;cases y with
    | a ys =>
     cases hy with
     | a h' M f =>
      rw[g]at M;cases M;cases h3 with
      | a v _ =>
       have:=(RZ (P:=P) g (wz r hs) (wz f v) w .eql (.const (.bool true)) (.const (.bool true))).2;rw[SS h2 hs v]at this;exact this
    | _=>cases h2) 0 k2 hm
   have e:Instr.findNow (.struct A) (.agg ⟨vs⟩) H 0=none∨H=[]:=by
    cases H with
    | nil=>simp_all
    | cons m H=>exact .inl rfl
   rcases e with h0|h0
   .simp only[Sem.run_bind,run_underlying h,Result.andThen_ok,h0];rw[d];simp
   .subst h0;cases hm;simp[run_underlying h,Instr.findNow,fx]
def zk_v{v:V}{k:V->X S1}(h:zk v k=.v r):(∀l,v≠.t l)/\k v=.v r:=by
 unfold zk at h;split at h
 .cases h
 simp_all
def rd_look(hT:qn P T){t:Nat}{x y:uH}{c:Bool}{k:V->X S1}(I:(lE env x λx=>lE env y λy=>XZ T h t x y c k)=.v r):∃v,k v=.v r/\Wh P env h (.lookup t x y c) v:=by
 obtain⟨a,h1,S⟩:=eZ I;obtain⟨b,h2,H⟩:=eZ S;clear I S;have mk:∀{μ:Mp} {v:V} {u:uB} (q:Bool),R μ v u->R μ (if c=true then .t [v,cB q]else v) (if c=true then .tuple #[u,.bool q]else u):=fun {μ v u} q J=>by
  cases c with
  | true=>exact .t (.cons J (.cons (.c _) .nil))
  | false=>exact J
 unfold XZ at H;split at H
 .rename_i i hi;obtain⟨inf,d,e1,K,rfl⟩:=ti hT hi;split at H
  .rename_i kt D hk;obtain⟨rfl,ie,ue,ng,O⟩:=Yi hk;split at H
   .rename_i o;split at H
    .rename_i es ck N;split at H
     .rename_i l;have hK:=N6 hT (LN l).1;rw[Hu]at H;cases p:fx b es with
      | some j =>
       obtain⟨y',b',v',q1,q2⟩:=fx_lt p;simp only[p,zac,q1,Option.map_some]at H;have L:k (if c=true then .t [v',cB true]else v')=.v r:=by cases c<;>exact H
       refine⟨_,L,λμ B w tmps Q ty pos U g E s=>?_⟩;have n:=eT s h1;have f:=eT s h2;generalize W:Act.eval ⟨tmps,[]⟩ x=Z at n;generalize M:Act.eval ⟨tmps,[]⟩ y=u2 at f;obtain⟨pl,ms,F,hm,Y⟩:=SX N E;obtain⟨e,g1,g2,g3,g4⟩:=Y.get q1;cases n with
       | m A =>
        rw[F]at A;cases A;refine⟨_,?_,mk true g3⟩;have C:=LO hT l f Y w;simp only[p,zac,g1,Option.map_some]at C;have G:(getObj pl.b).run P w=.ok (.map ⟨ms⟩ ck) w:=by simp[getObj,Sem.run,hm]
        simp only[execOp,W,M,Instr.lookup,Sem.run_bind,run_underlying K,Result.andThen_ok,G,Sem.run_pure,yV hK f,C]
      | none =>
       simp only[p,zfc]at H;obtain⟨z1,H⟩:=zk_v H;obtain⟨ie2,z,z2,z3,z4,_⟩:=N4 z1;have L:k (if c=true then .t [QI P D,cB false]else QI P D)=.v r:=by cases c<;>exact H
       refine⟨_,L,λμ B w tmps Q ty pos U g E s=>?_⟩;have n:=eT s h1;have f:=eT s h2;generalize W:Act.eval ⟨tmps,[]⟩ x=Z at n;generalize M:Act.eval ⟨tmps,[]⟩ y=u2 at f;obtain⟨pl,ms,F,hm,Y⟩:=SX N E;cases n with
       | m A =>
        rw[F]at A;cases A;refine⟨_,?_,mk false (z4▸Hr μ z)⟩;have C:=LO hT l f Y w;simp only[p,zfc]at C;have G:(getObj pl.b).run P w=.ok (.map ⟨ms⟩ ck) w:=by simp[getObj,Sem.run,hm]
        simp only[execOp,W,M,Instr.lookup,Sem.run_bind,run_underlying K,Result.andThen_ok,G,Sem.run_pure,yV hK f,C,ja (t:=D) z2 z3]
     .cases H
    .cases H
   .cases H
  .cases H
 .cases H
end find
end Go.CI
namespace Go.CI
section cls
variable {P:uG}{T:Tr TI}{r:S1}{env:Tr V}{h:Tr Ob}
theorem actC_pu(hT:qn P T){s t x g}(ha:Hj T s t x=.pu g){k}(B:g env k=.v r):∃v,k v=.v r/\LJ P env (.convert s t x) v:=by
 unfold Hj at ha;split at ha
 .rename_i i hi;split at ha
  .first|cases L|cases h|cases ha|cases B|cases M|grind
  .split at ha
   .rename_i j C;obtain⟨inf,d,G,I,rfl⟩:=ti hT C;split at ha
    .rename_i O hk;cases ha;exact pu_conv hT G I (λe A=>by subst A;have:=LK (P:=P) (d:=.slice e) hk;cases this) (λA=>by subst A;cases hk) B
    grind
   grind
 grind
def actC_rd(hT:qn P T){s t x g}(ha:Hj T s t x=.rd g){k}(a:g env h k=.v r):∃v,k v=.v r/\Wh P env h (.convert s t x) v:=by
 unfold Hj at ha;split at ha
 .rename_i i hi;obtain⟨Q,n,b,c,rfl⟩:=ti hT hi;split at ha
  .rename_i H;split at ha
   .rename_i j f;obtain⟨inf,d,o,l,rfl⟩:=ti hT f;split at ha
    .rename_i e hk;split at ha
     .rename_i m;cases ha;obtain⟨rfl,_⟩:=ya hk;exact rd_str hT l (u8T_v hT m) (c.trans (zaq some (AN H))) a
     grind
    grind
   grind
  grind
 grind
def get0{ts:uD uE}{t}{l:LQ Nat}(h:ts.toList=t::l):ts[0]?=some t:=by obtain⟨ts⟩:=ts;simp_all
def actB_pu(hT:qn P T){b xs ts g}(ha:Hi T b xs.toList ts.toList=.pu g){k}(h:g env k=.v r):∃v,k v=.v r/\LJ P env (.call ⟨.builtin b,xs,ts⟩) v:=by
 unfold Hi at ha;split at ha
 .grind
 .split at ha
  .rename_i t l U;split at ha
   .rename_i i hi;obtain⟨inf,d,a,H,rfl⟩:=ti hT hi;split at ha
    .rename_i e hk;cases ha;obtain⟨rfl,_⟩:=ya hk;exact pu_cap h ⟨t,e,get0 U,H⟩
    grind
   grind
  grind
 .cases ha;exact pu_mm (b:=true) h
 .cases ha;exact pu_mm (b:=false) h
 grind
def actB_rd(hT:qn P T){b xs ts g}(ha:Hi T b xs.toList ts.toList=.rd g){k}(H:g env h k=.v r):∃v,k v=.v r/\Wh P env h (.call ⟨.builtin b,xs,ts⟩) v:=by
 unfold Hi at ha;split at ha
 .split at ha
  .rename_i x K;split at ha
   .rename_i t l U;split at ha
    .rename_i i hi;cases ha;exact rd_len hT K U hi H
    grind
   grind
  grind
 .grind
 .cases ha
 .cases ha
 grind
def Yu(hT:qn P T){o g}(ha:act T o=.pu g){k}(h:g env k=.v r):∃v,k v=.v r/\LJ P env o v:=by
 unfold act at ha;split at ha
 .cases ha;obtain⟨v,a,b,_⟩:=SR (P:=P) h;grind
 .cases ha;obtain⟨v,a,_,b⟩:=SR (P:=P) h;grind
 .cases ha;exact pu_pick h
 .cases ha;exact Ym hT h
 .cases ha;exact pu_nil h
 .cases ha;exact pu_bin hT h
 .cases ha;exact pu_un h
 .exact actC_pu hT ha h
 .split at ha
  .rename_i H;cases ha;exact pu_func H h
  grind
 .cases ha;exact U4 hT h
 .cases ha;exact pu_idxA hT h
 .cases ha;exact pu_idx hT h
 .cases ha;exact pu_ext h
 all_goals first
  | (cases ha;done)
  | skip
 .grind
 .grind
 .split at ha
  .exact actB_pu hT ha h
  .cases ha
  grind
def LP(hT:qn P T){o g}(ha:act T o=.rd g){k}(H:g env h k=.v r):∃v,k v=.v r/\Wh P env h o v:=by
 unfold act at ha;split at ha
 case h_8=>exact actC_rd hT ha H
 all_goals first
  | (cases ha;done)
  | skip
 .split at ha<;>cases ha
 .cases ha;exact SV hT H
 .cases ha;exact Yp hT H
 .cases ha;exact rd_look hT H
 .grind
 .grind
 .split at ha
  .exact actB_rd hT ha H
  .cases ha
  grind
end cls
end Go.CI
namespace Go.CI
open Go.RowKit
open Go.Abs
section al
variable {P:uG}{T:Tr TI}{r:S1}{env:Tr V}
def AlS(P:uG)(env:Tr V)(nx:Nat)(o:Op)(v:V)(ob:Ob):=
 ∀μ B (h h') w tmps (d) (ty:Nat) (pos) (a) (g),HR μ B h w->ER μ env tmps->μ nx=none->(∀j,h' j=if j=nx then some ob else h j) ->
  ∃u pl w',(execOp (Act.eval ⟨tmps,[]⟩) ⟨d,o,ty,pos,a,g⟩).run P w=.ok (.value u) w'/\R (μ.add nx pl) v u/\HR (μ.add nx pl) B h' w'/\Ev μ h w (μ.add nx pl) h' w' nx (nx+1)
def Hv{μ B nx ty sz h h' w w' cs vs post fz}(hH:HR μ B h w)(hn:μ nx=none)(H:∀j,h' j=if j=nx then some (.c ty sz cs)else h j)
  (hw:w'.heap=w.heap.push (.cells ⟨vs++post⟩ ty fz)) (a:fz.2<=fz.1∨vs.length+post.length<=fz.1) (h1:w'.os=w.os) (h2:w'.tape=w.tape) (h3:w'.output=w.output) (d:Rs μ cs vs) (U:∀u∈vs,u.oneCell'=true) :
  HR (μ.add nx ⟨w.heap.size,0,vs.length+post.length,sz⟩) B h' w'/\Ev μ h w (μ.add nx ⟨w.heap.size,0,vs.length+post.length,sz⟩) h' w' nx (nx+1):=by
 refine hH.make hn H (λcs e=>by cases e) (by rw[hw];simp) rfl (by rw[hw];simp) (λb f=>?_) h1 h2 h3 ⟨rfl,rfl,fz,[],vs,post,?_,by simp_all,rfl,rfl,d.mono (Mp.Hq hn),U⟩
 .rw[hw,Array.getElem?_push];rw[zaa (by omega)]
 simp_all
def SZ{μ B nx h h' w w' x y ext sz}(hH:HR μ B h w)(hn:μ nx=none)(H:∀j,h' j=if j=nx then some x else h j)(hx:∀cs,x≠.k cs)
  (hw:w'.heap=w.heap.push y) (h1:w'.os=w.os) (h2:w'.tape=w.tape) (h3:w'.output=w.output) (z:LG (μ.add nx ⟨w.heap.size,0,ext,sz⟩) ⟨w.heap.size,0,ext,sz⟩ w' x) :
  HR (μ.add nx ⟨w.heap.size,0,ext,sz⟩) B h' w'/\Ev μ h w (μ.add nx ⟨w.heap.size,0,ext,sz⟩) h' w' nx (nx+1):=by
 refine hH.make hn H hx (by rw[hw];simp) rfl (by rw[hw];simp) (λb a=>?_) h1 h2 h3 z;rw[hw,Array.getElem?_push];rw[zaa (by omega)]
def Yv(hT:qn P T){nx t k}(H:QK T nx t k=.v r):∃v ob,k v ob=.v r/\AlS P env nx (.alloc t) v ob:=by
 unfold QK at H;split at H
 .rename_i i hi;obtain⟨inf,d,n,o,rfl⟩:=ti hT hi;split at H
  .rename_i cs c;rw[dI]at H;obtain⟨Q,z,e,f,j,q⟩:=Ch c;refine⟨_,_,H,λμ B h h' w tmps d ty pos s g l u hn m=>?_⟩;obtain⟨c1,c2⟩:=tL c (j▸Hr μ z);obtain⟨a,b⟩:=Hv (w':=w.alloc (.cells z.cells t)) (vs:=z.cells.toList) (post:=[]) l hn m (fz:=(0,0)) (by rw[zbr];rfl) (.inl (zag _)) rfl rfl rfl c1 c2;refine⟨.pointer (some ⟨w.heap.size,0,none⟩),_,_,?_,.p 0 Mp.add_same,a,b⟩;simp[execOp,Instr.alloc,ja e f,newVar,newRow]
  .cases H
 .cases H
def al_box(hT:qn P T){nx t x k}(c:(lE env x λx=>aBox T nx t x k)=.v r):∃v ob,k v ob=.v r/\AlS P env nx (.box t x) v ob:=by
 obtain⟨a,h1,H⟩:=eZ c;clear c;unfold aBox at H;split at H
 .rename_i i hi;split at H
  .rename_i cs e;rw[dI]at H;refine⟨_,_,H,λμ B h h' w tmps d ty pos n g f j hn l=>?_⟩;obtain⟨c1,m⟩:=tL e (eT j h1);obtain⟨a,b⟩:=Hv (w':=w.alloc (.cells (Act.eval ⟨tmps,[]⟩ x).cells t)) (vs:=(Act.eval ⟨tmps,[]⟩ x).cells.toList) (post:=[]) f hn l (fz:=(0,0)) (by rw[zbr];rfl) (.inl (zag _)) rfl rfl rfl c1 m;refine⟨.pointer (some ⟨w.heap.size,0,none⟩),_,_,?_,.p 0 Mp.add_same,a,b⟩;simp[execOp,Instr.box,newVar,newRow]
  .cases H
 .cases H
def sN{α}(z:LQ α):∀n,(CI.rep z n).length=n*z.length
 | 0=>by simp[CI.rep]
 | n+1=>by rw[CI.rep,zar,sN z n,Nat.succ_mul];omega
def S0{α}(z:LQ α):∀n i,i<n*z.length->(CI.rep z n)[i]?=z[i % z.length]?
 | 0,i,h=>by simp at h
 | n+1,i,h=>by
  rw[CI.rep];by_cases hi:i<z.length
  .rw[zaj hi,zdl hi]
  .rw[zan (by omega),S0 z n (i-z.length) (by rw[Nat.succ_mul]at h;omega)];congr 1;exact(Nat.mod_eq_sub_mod (by omega)).symm
def Ea(zero:uD uB)(n):(Array.range (n*zero.size)).map (λi=>zero[i % zero.size]!)=⟨CI.rep zero.toList n⟩:=by
 apply Array.ext_getElem?;intro i;by_cases hi:i<n*zero.size
 .have h0:0<zero.size:=by
   grind
  have h:i % zero.size<zero.size:=zdq _ h0;have:=S0 zero.toList n i (by omega);simp_all
 .have e:(CI.rep zero.toList n)[i]?=none:=by rw[zbu];rw[sN];simp_all
  grind
def al_bsl(hT:qn P T){nx t n ps k}(H:aBSl T env nx t n ps.toList k=.v r):∃v ob,k v ob=.v r/\AlS P env nx (.buildSlice t n ps) v ob:=by
 unfold aBSl at H;split at H
 .rename_i i hi;obtain⟨inf,d,L,D,rfl⟩:=ti hT hi;split at H
  .rename_i e hk;obtain⟨rfl,ie,N,j,E⟩:=ya hk;split at H
   .rename_i z x;obtain⟨Q,zv,c,F,G,y⟩:=Ch x;have c:P.info? e=some Q:=c;rw[j]at c;cases c;split at H
    .rename_i q;have q:=zae q;simp only[FJ,rF j]at q;rw[SP]at H;obtain⟨O,q1,q2,A⟩:=QS H;rw[dI]at q1;refine⟨_,_,q1,λμ B h h' w tmps d ty pos R g I J hn f=>?_⟩;obtain⟨c1,c2⟩:=tL x (G▸Hr μ zv);have s:∀u∈CI.rep zv.cells.toList n,u.oneCell'=true:=by
      clear A H;have:∀m,∀u∈CI.rep zv.cells.toList m,u.oneCell'=true:=by
       intro m
       induction m with
       | zero=>intro u f;cases f
       | succ m S=>intro u f;rw[CI.rep,zbi]at f;grind
      grind
     obtain⟨M,C,k2,k3⟩:=A μ tmps _ (λi=>some (i*ie.size,ie.size)) (λi=>by simp[place,show lD P (.slice e)=.sl e from hk,FJ,rF j]) J (c1.rep n) s;have hl:=k2.len;have U:M.length=n*ie.size:=by
      rw[←hl,q2,sN,c1.len,zbx,y]
     obtain⟨a,b⟩:=Hv (w':=w.alloc (.cells ⟨M⟩ e)) (vs:=M) (post:=[]) I hn f (fz:=(0,0)) (by rw[zbr];rfl) (.inl (zag _)) rfl rfl rfl k2 k3;refine⟨.slice (some ⟨w.heap.size,0,none⟩) n n,_,_,?_,.l 0 n _ n Mp.add_same (zag _) (.inl rfl),a,b⟩;have K:=Ea zv.cells n;rw[y]at K;have o:(Array.range (n*ie.size)).map (λi=>(if n*ie.size=0 then(#[]:uD uB)else zv.cells)[i % (if n*ie.size=0 then(#[]:uD uB)else zv.cells).size]!)=⟨CI.rep zv.cells.toList n⟩:=by
      grind
     have W:(ps.map λp=>(p.1,Act.eval ⟨tmps,[]⟩ p.2)).toList=ps.toList.map λp=>(p.1,Act.eval ⟨tmps,[]⟩ p.2):=by simp
     simp only[execOp,Instr.buildSlice,Sem.run_bind,run_underlying D,Result.andThen_ok,cM j];rw[zaa (by omega)];by_cases h0:n*ie.size=0
     .simp only[zab h0]at o;rw[zab h0];simp only[o,W,C,newRow,Sem.run_bind,run_newObj,Sem.run_pure,Result.andThen_ok];rfl
     .simp only[zaa h0]at o;rw[zaa h0];simp only[o,W,C,newRow,Sem.run_bind,run_newObj,Sem.run_pure,Result.andThen_ok,ja (t:=e) c F];rfl
    .cases H
   .cases H
  .cases H
 .cases H
end al
section al
variable {P:uG}{T:Tr TI}{r:S1}{env:Tr V}
def al_map0{nx t:Nat}:AlS P env nx (.makeMap t none) (.m nx) (.m [] 0):=λμ B h h' w tmps d ty pos f g H i hn c=>by
 obtain⟨a,b⟩:=SZ (x:=.m [] 0) (y:=.map #[] 0) (ext:=0) (sz:=0) (w':=w.alloc (.map #[] 0)) H hn c (λcs e=>by cases e) rfl rfl rfl rfl ⟨[],heap_alloc_new w _,.nil,rfl⟩;refine⟨.map (some w.heap.size),_,_,?_,.m Mp.add_same,a,b⟩;simp[execOp,Instr.makeMap]
def S3{z:LQ uB}(h:∀u∈z,u.oneCell'=true):∀m,∀u∈CI.rep z m,u.oneCell'=true
 | 0,u,hu=>by cases hu
 | m+1,u,hu=>by rw[CI.rep,zbi]at hu;exact hu.elim (h u) (S3 h m u)
def al_make(hT:qn P T){nx t x y k}(p:(lE env x λl=>lE env y λc=>X0 T nx t l c k)=.v r):∃v ob,k v ob=.v r/\AlS P env nx (.makeSlice t x y) v ob:=by
 obtain⟨a,h1,S⟩:=eZ p;obtain⟨b,h2,H⟩:=eZ S;clear p S;unfold X0 at H;split at H
 .rename_i i hi;obtain⟨inf,d,R,A,rfl⟩:=ti hT hi;split at H
  .rename_i e hk;obtain⟨rfl,ie,U,j,C⟩:=ya hk;split at H
   .rename_i n hn;split at H
    .rename_i c E;split at H
     .rename_i D;have D:=zae D;split at H
      .rename_i z q;obtain⟨Q,zv,f,F,G,I⟩:=Ch q;have f:P.info? e=some Q:=f;rw[j]at f;cases f;split at H
       .cases H
       .rename_i m;simp only[zam]at m;have b1:=zae m.1;have b2:=zae m.2;have J:LA P e=ie.bytes:=by unfold LA;rw[j]
        simp only[FJ,J]at b2;rw[SP,dI,dI,dI]at H;refine⟨_,_,H,λμ B h h' w tmps d ty pos V g K s o L=>?_⟩;obtain⟨M,hl⟩:=Ht hn (eT s h1);obtain⟨N,O⟩:=Ht E (eT s h2);obtain⟨c1,c2⟩:=tL q (G▸Hr μ zv);have hm:madeCells zv.cells (c*ie.size)=⟨CI.rep zv.cells.toList c⟩:=by rw[←I];exact Ea zv.cells c
        obtain⟨a,b⟩:=Hv (w':=w.alloc (.cells (madeCells zv.cells (c*ie.size)) e)) (vs:=CI.rep zv.cells.toList c) (post:=[]) K o L (fz:=(0,0)) (by rw[zbr,hm];rfl) (.inl (zag _)) rfl rfl rfl (c1.rep c) (S3 c2 c);refine⟨.slice (some ⟨w.heap.size,0,none⟩) n c,_,_,?_,.l 0 n _ c Mp.add_same D (.inl rfl),a,b⟩;have u:=run_make (P:=P) w t e ie zv A j F M N (n:Int) (c:Int) (by omega) (by omega) (by rw[Int.mul_comm,←Int.natCast_mul];omega) (by omega);simp only[zcl]at u;simp only[execOp,hl,O,u,Sem.run_bind,Result.andThen_ok,Sem.run_pure]
      .cases H
     .cases H
    .cases H
   .cases H
  .cases H
 .cases H
def Yw{nx t:Nat}(ht:P.underlying t=some .string){x k}(f:(lE env x λx=>QL nx x k)=.v r):∃v ob,k v ob=.v r/\AlS P env nx (.range t x) v ob:=by
 obtain⟨a,h1,H⟩:=eZ f;clear f;unfold QL at H;split at H
 .rename_i l;refine⟨_,_,H,λμ B h h' w tmps d ty pos q g m n hn o=>?_⟩;have j:=eT n h1;generalize c:Act.eval ⟨tmps,[]⟩ x=u at j;cases j with
  | s bs =>
   obtain⟨a,b⟩:=SZ (x:=.i (bs.map UInt8.toNat) 0) (y:=.stringIter ⟨⟨bs⟩⟩ 0) (ext:=0) (sz:=0) (w':=w.alloc (.stringIter ⟨⟨bs⟩⟩ 0)) m hn o (λcs e=>by cases e) rfl rfl rfl rfl ⟨rfl,bs,rfl,heap_alloc_new w _⟩;refine⟨.pointer (some ⟨w.heap.size,0,none⟩),_,_,?_,.p 0 Mp.add_same,a,b⟩;simp[execOp,c,Instr.range,run_underlying ht]
 .cases H
end al
end Go.CI
namespace Go.CI
section al
variable {P:uG}{T:Tr TI}{r:S1}{env:Tr V}
def actC_al{s t x g}(ha:Hj T s t x=.al g):False:=by
 unfold Hj at ha
 grind
def actB_al{b l ts g}(ha:Hi T b l ts=.al g):False:=by
 unfold Hi at ha
 grind
def Yx(hT:qn P T){nx o g}(ha:act T o=.al g){k}(h:g env nx k=.v r):∃v ob,k v ob=.v r/\AlS P env nx o v ob:=by
 unfold act at ha;split at ha
 case h_8=>exact(actC_al ha).elim
 all_goals first
  | (cases ha;done)
  | skip
 .split at ha<;>cases ha
 .cases ha;exact Yv hT h
 .cases ha;exact al_box hT h
 .cases ha;exact al_bsl hT h
 .split at ha
  .cases ha;exact⟨_,_,h,al_map0⟩
  .cases ha
 .cases ha;exact al_make hT h
 .split at ha
  .rename_i i hi;obtain⟨inf,d,H,e,rfl⟩:=ti hT hi;split at ha
   .rename_i hk;cases ha;exact Yw (e.trans (zaq some (AN hk))) h
   grind
  grind
 .split at ha
  .exact(actB_al ha).elim
  .cases ha
  grind
end al
end Go.CI
namespace Go.CI
open Go.RowKit
open Go.Abs
section ef
variable {P:uG}{T:Tr TI}{r:S1}{μ:Mp}{env:Tr V}{h:Tr Ob}
structure Yy(P:uG)(env:Tr V)(nx:Nat)(h:Tr Ob)(o:Op)(v:V)(du:Nat)(h':Tr Ob):Prop where
 le:nx<=du
 run:∀μ B w tmps (d:LX Tmp) (ty:Nat) (pos:String) (af:uD Edge) (g:LX (Nat×Bool)),HR μ B h.get w->ER μ env tmps->(∀o,nx<=o->o<du->μ o=none) ->
  ∃u μ' w',((execOp (Act.eval ⟨tmps,[]⟩) ⟨d,o,ty,pos,af,g⟩).run P w=.ok (.value u) w'∨((execOp (Act.eval ⟨tmps,[]⟩) ⟨d,o,ty,pos,af,g⟩).run P w=.ok .skip w'/\u=Go.undef)) /\
   R μ' v u/\HR μ' B h'.get w'/\Ev μ h.get w μ' h'.get w' nx du
def Eb(g o t:Nat)(fz):∀vs i c w,w.heap[g]?=some (.cells c t fz)->fz.2<=fz.1∨o+i+vs.length<=fz.1->o+i+vs.length<=c.size->(∀v∈vs,v.oneCell'=true) ->
  (storeCells ⟨g,o,none⟩ vs i).run P w=.ok () (w.setRow g ⟨c.toList.take (o+i)++vs++c.toList.drop (o+i+vs.length)⟩)
 | [],i,c,w,h,_,_,_=>by
  simp only[storeCells,zbr,zdu,zct,zcz];rw[show(⟨c.toList⟩:uD uB)=c from rfl,setRow_self w g c t fz h];rfl
 | v::l,i,c,w,h,f,hl,h1=>by
  have hi:o+i<c.size:=by grind
  have a:w.cell? ⟨g,o+i,none⟩=some c[o+i]:=by simp[World.cell?,h,hi]
  have H:w.frozen? ⟨g,o+i,none⟩=false:=by
   obtain⟨lo,hi'⟩:=fz;simp only[World.frozen?,h,Bool.and_eq_false_iff,zdn]
   grind
  have b:(store ((⟨g,o,none⟩:Addr).add i) v).run P w=.ok () (w.setRow g (c.setIfInBounds (o+i) v)):=by
   rw[mX,run_store P w _ v _ (h1 v (by simp)),a];simp[H,setCell_eq_setRow w g (o+i) c t fz v h]
  have d:=Eb g o t fz l (i+1) (c.setIfInBounds (o+i) v) (w.setRow g (c.setIfInBounds (o+i) v)) (setRow_heap w g c _ t _ h)
   (by grind) (by grind) (λx hx=>h1 x (by simp[hx]))
  simp only[storeCells,Sem.run_bind,b,Result.andThen_ok,d,setRow_setRow];congr 2;have e:=list_seg_step c.toList (o+i) v l (by omega);simpa[Array.toList_setIfInBounds,zcw] using e
def Yz{pre vs post new:LQ uB}{off}(hn:off+new.length<=vs.length):(pre++(vs++post)).take (pre.length+off)++new++(pre++(vs++post)).drop (pre.length+off+new.length)=pre++(vs.take off++new++vs.drop (off+new.length)++post):=by
 rw[List.take_append,List.drop_append];have e:pre.take (pre.length+off)=pre:=zbj (by omega);have h:pre.drop (pre.length+off+new.length)=[]:=zbs (by omega);have H:pre.length+off-pre.length=off:=by omega
 have a:pre.length+off+new.length-pre.length=off+new.length:=by omega
 rw[e,h,H,a,List.take_append,List.drop_append];have b:off-vs.length=0:=by omega
 have c:off+new.length-vs.length=0:=by omega
 rw[b,c];simp
def stO_v{o off new k}(H:stO o off new h k=.v r):∃h',k h'=.v r /\
  ∀μ B w pl nx us,HR μ B h.get w->μ o=some pl->Rs μ new us->(∀u∈us,u.oneCell'=true) ->
   ∃w',(storeCells ⟨pl.b,pl.base+off,none⟩ us 0).run P w=.ok () w'/\HR μ B h'.get w'/\Ev μ h.get w μ h'.get w' nx nx:=by
 unfold stO at H;split at H
 .refine⟨h,H,λμ B w pl nx us d i f h1=>?_⟩;cases f;exact⟨w,rfl,d,.refl _ _ _ _⟩
 .split at H
  .rename_i ty sz cs m;split at H
   .rename_i g;have g:=zae g;rw[vY _ _ _ _ (by omega)]at H;obtain⟨h',q1,q2⟩:=lF H;refine⟨h',q1,λμ B w pl nx us d i f h1=>?_⟩;obtain⟨pl',q,y,z,fz,pre,vs,post,s,t,x,A,p,C⟩:=d.ob o _ m;rw[i]at q;cases q;have hl:=f.len;have D:=p.len;have j:=Eb (P:=P) pl.b (pl.base+off) ty fz us 0 _ w s (t.imp id λh=>by omega) (by grind) h1;simp only[zct]at j;have a:=Yz (pre:=pre) (vs:=vs) (post:=post) (new:=us) (off:=off) (by omega);rw[x]at a;rw[a]at j;refine⟨_,j,?_⟩;have l:=d.xn (h':=h'.get) (n:=nx) (w':=w.setRow pl.b ⟨pre++(vs.take off++us++vs.drop (off+us.length)++post)⟩) (x':=.c ty sz (cs.take off++new++cs.drop (off+new.length))) m rfl i q2 (λcs e=>by cases e) (by simp) (λb g=>setRow_other w pl.b b _ g) rfl rfl rfl
     ⟨y,z,fz,pre,_,post,setRow_heap w pl.b _ _ ty fz s,t,x,by grind,((p.take off).append f).append (hl▸p.drop (off+new.length)),λu E=>by
      grind⟩
    exact l
   .cases H
  .cases H
def YA(hT:qn P T){nx t x y k}(f:(lE env x λx=>lE env y λy=>QM T t x y nx h k)=.v r):∃v j h',k v j h'=.v r/\Yy P env nx h (.store t x y) v j h':=by
 obtain⟨a,h1,S⟩:=eZ f;obtain⟨b,h2,H⟩:=eZ S;clear f S;unfold QM at H;split at H
 .rename_i o off;split at H
  .rename_i i hi;obtain⟨inf,d,n,F,rfl⟩:=ti hT hi;split at H
   .rename_i cs q;split at H
    .rename_i e;have e:=zai e;obtain⟨h',q1,q2⟩:=stO_v (P:=P) H;refine⟨_,_,_,q1,zag _,λμ B w tmps d ty pos G g s l hn=>?_⟩;have c:=eT l h1;obtain⟨c1,c2⟩:=tL q (eT l h2);have m:=c1.len;generalize W:Act.eval ⟨tmps,[]⟩ x=I at c;generalize M:Act.eval ⟨tmps,[]⟩ y=u at c1 c2 m;cases c with
     | p _ z =>
      obtain⟨w',A,C,D⟩:=q2 μ B w _ nx _ s z c1 c2;refine⟨_,μ,w',.inr ⟨?_,rfl⟩,.t .nil,C,D⟩;have dE:¬(u.cells.size≠inf.size):=λE=>E (by rw[←zbx,←m];exact e);simp only[execOp,W,M,Instr.storeAt,Instr.sureAddr,storeVar,Sem.run_bind,Sem.run_pure,Result.andThen_ok,cM n,zaa dE,A]
    .cases H
   .cases H
  .cases H
 .cases H
end ef
section ef
variable {P:uG}{T:Tr TI}{r:S1}{μ:Mp}{env:Tr V}{h:Tr Ob}
def S4(μ):∀l:LQ uA,Rs μ ((l.map UInt8.toNat).map λb=>V.c (.int .u8 (.ofNat b))) (l.map λb=>Value.int .u8 b.toNat)
 | []=>.nil
 | b::l=>.cons (.c _) (S4 μ l)
def Cells.same{w w' pl vs}(h:Cells w pl vs)(hw:w'.heap=w.heap):Cells w' pl vs:=
 ⟨λi u H=>by have:=h.get i u H;simp only[World.cell?,hw]at this ⊢;exact this,h.one⟩
def S5{sz x k}(q:src h sz x k=.v r):∃n cs,k n cs=.v r/\cs.length=n*sz/\∀μ B w u,HR μ B h.get w->R μ x u ->
  ∃us,Rs μ cs us/\(∀u∈us,u.oneCell'=true)/\(∀w',(Builtin.lenOf u).run P w'=.ok n w')/\∀w' m,w'.heap=w.heap->m<=n->(Builtin.firstCells sz m u).run P w'=.ok ⟨us.take (m*sz)⟩ w':=by
 rcases src_v q with⟨l,rfl,rfl,d⟩|⟨t,d⟩|⟨o,off,n,c,cs,rfl,y,z,d⟩
 .refine⟨_,_,d,by simp,λμ B w u g a=>?_⟩;cases a with
  | s bs =>
   refine⟨_,S4 μ bs,λu H=>by obtain⟨b,_,rfl⟩:=zck.1 H;rfl,λw'=>by simp[Builtin.lenOf,ByteArray.size],λw' m e f=>?_⟩
   simp only[Builtin.firstCells,JY,Sem.run_pure,Nat.sub_zero,List.drop_zero,Nat.mul_one,←zfe];simp
 .refine⟨_,_,d,by simp,λμ B w u g a=>?_⟩;rcases t with rfl|rfl
  .cases a;exact⟨[],.nil,λu H=>(by cases H),λw'=>rfl,λw' m e f=>by simp[Builtin.firstCells]⟩
  .cases a;refine⟨[],.nil,λu H=>(by cases H),λw'=>rfl,λw' m e f=>?_⟩;have:m=0:=by omega
   subst this;simp[Builtin.firstCells,loadCells,loadCellsFrom]
 .refine⟨_,_,d,by grind,λμ B w u g a=>?_⟩;obtain⟨pl,K,A,C⟩:=N5 y g;obtain⟨vs,i,j⟩:=va C;cases a with
  | l _ _ _ kc p Y D =>
   rw[A]at p;cases p;have hl:=i.len;refine⟨_,(i.drop off).take (n*sz),λu H=>j.one u (zca (zco H)),λw'=>rfl,λw' m e f=>?_⟩;have X:m*sz<=n*sz:=zbn _ f;have:=qz (P:=P) (j.same e) (off:=off) (n:=m*sz) (by omega);simp only[Builtin.firstCells,this,zey];rw[zga X]
def stB(base:Option Addr)(l:List uB):= match base with
 | some a=>storeCells a l 0
 | none=>pure ()
end ef
section ef
variable {P:uG}{T:Tr TI}{r:S1}{μ:Mp}{env:Tr V}{h:Tr Ob}
def RM.modify:∀{es ms} i {x v u z},RM μ es ms->R μ x u->R μ v z->RM μ (es.modify i λe=>(x,e.2.1,v)) (ms.modify i λe=>{ e with key:=u,val:=z })
 | _,_,i,_,_,_,_,.nil,_,_=>by cases i<;>exact .nil
 | _,_,0,_,_,_,_,.cons h1 h2 h3 t,hx,hv=>.cons hx hv h3 t
 | _,_,i+1,_,_,_,_,.cons h1 h2 h3 t,hx,hv=>.cons h1 h2 h3 (t.modify i hx hv)
def RM.push:∀{es ms x v u z} b,RM μ es ms->R μ x u->R μ v z->RM μ (es++[(x,b,v)]) (ms++[⟨u,z,b⟩])
 | _,_,_,_,_,_,b,.nil,hx,hv=>.cons hx hv rfl .nil
 | _,_,_,_,_,_,b,.cons h1 h2 h3 t,hx,hv=>.cons h1 h2 h3 (t.push b hx hv)
def RM.erase:∀{es ms} i,RM μ es ms->RM μ (es.eraseIdx i) (ms.eraseIdx i)
 | _,_,i,.nil=>by cases i<;>exact .nil
 | _,_,0,.cons h1 h2 h3 t=>t
 | _,_,i+1,.cons h1 h2 h3 t=>.cons h1 h2 h3 (t.erase i)
def YB{t x}:∀{es i},wy T t x es=true->fx x es=some i->∃y b v,es[i]?=some (y,b,v)/\Pz x y=some true/\LC T t y=true
 | [],_,_,h=>by cases h
 | (y,b,v)::es,i,hk,h=>by
  obtain⟨k,_,k3⟩:=yb hk;unfold fx at h;split at h
  .grind
  .cases H:fx x es with
   | none=>rw[H]at h;cases h
   | some j =>
    rw[H]at h;cases h;obtain⟨a,b',v',h1,h2,h3⟩:=YB k3 H;simp_all
def S6{w b ck ms x}(h:w.heap[b]?=some (.map ms ck)):(setObj b x).run P w=.ok () { w with heap:=w.heap.setIfInBounds b x }:=by
 simp only[setObj,Sem.run,h]
def map_set{o B n ck c es es' ms' h' w pl}(hH:HR μ B h.get w)(H:h.get o=some (.m es ck))(a:μ o=some pl)(f:∀j,h' j=if j=o then some (.m es' c)else h.get j)(g:RM μ es' ms'):
  pl.b<w.heap.size/\HR μ B h' { w with heap:=w.heap.setIfInBounds pl.b (.map ⟨ms'⟩ c) }/\Ev μ h.get w μ h' { w with heap:=w.heap.setIfInBounds pl.b (.map ⟨ms'⟩ c) } n n:=by
 obtain⟨pl',p,k,l,q,i⟩:=hH.ob o _ H;rw[a]at p;cases p;have d:=(hH.low o _ pl H rfl a).2;refine⟨d,hH.xn H rfl a f (λcs e=>by cases e) (by simp) (λb r=>by grind) rfl rfl rfl ⟨ms',by simp[d],g,i⟩⟩
def withK_v(hT:qn P T){t k}(h:X3 T t k=.v r):∃H e,P.underlying t=some (.map H e)/\k H=.v r:=by
 unfold X3 at h;split at h
 .rename_i i hi;obtain⟨inf,d,b,a,rfl⟩:=ti hT hi;split at h
  .rename_i H e hk;exact⟨H,e,a.trans (zaq some (Yi hk).1),h⟩
  .cases h
 .cases h
def ins_v(hT:qn P T){t m x v k}(H:oIns T t m x v h k=.v r):∃h',k h'=.v r/\∀μ B w n u ux j,HR μ B h.get w->R μ m u->R μ x ux->R μ v j ->
  ∃w',(Instr.mapUpdate t u ux j).run P w=.ok () w'/\HR μ B h'.get w'/\Ev μ h.get w μ h'.get w' n n:=by
 unfold oIns at H;split at H
 .rename_i o;split at H
  .rename_i es ck l;obtain⟨G,e,C,H⟩:=withK_v hT H;split at H
   .rename_i hk;obtain⟨E,k2⟩:=LN hk;have hK:=N6 hT E;rw[LM]at H;cases a:fx x es with
    | some i =>
     simp only[a]at H;obtain⟨h',q1,q2⟩:=lF H;refine⟨h',q1,λμ B w n u ux j c p hx hv=>?_⟩;obtain⟨pl,ms,d,f,Y⟩:=SX l c;obtain⟨y,b,v0,g1,g2,g3⟩:=YB k2 a;obtain⟨en,D,n2,I,J⟩:=Y.get g1;cases p with
     | m g =>
      rw[d]at g;cases g;obtain⟨F,s1,s2⟩:=map_set (n:=n) c l d q2 (Y.modify i hx hv);refine⟨_,?_,s1,s2⟩;have z:=LO hT hk hx Y w;simp only[a,zac,D,Option.map_some]at z;have q:(getObj pl.b).run P w=.ok (.map ⟨ms⟩ ck) w:=by simp[getObj,Sem.run,f]
      have s:(Instr.keyThatStays en.key ux).run P w=.ok ux w:=by
       unfold Instr.keyThatStays;rw[zab (Yq hK (N6 hT g3) hx n2 g2)];rfl
      have A:(((⟨ms⟩:uD MapEntry)[i]?).map (·.key)).getD ux=en.key:=by simp[D]
      simp only[Instr.mapUpdate,Sem.run_bind,run_underlying C,Result.andThen_ok,q,yV hK hx,z,A,s,List.modify_toArray,S6 f]
    | none =>
     simp only[a]at H;obtain⟨h',q1,q2⟩:=lF H;refine⟨h',q1,λμ B w n u ux j c p hx hv=>?_⟩;obtain⟨pl,ms,d,f,Y⟩:=SX l c;cases p with
     | m g =>
      rw[d]at g;cases g;obtain⟨F,s1,s2⟩:=map_set (n:=n) c l d q2 (Y.push ck hx hv);refine⟨_,?_,s1,s2⟩;have z:=LO hT hk hx Y w;simp only[a,zfc]at z;have q:(getObj pl.b).run P w=.ok (.map ⟨ms⟩ ck) w:=by simp[getObj,Sem.run,f]
      simp only[Instr.mapUpdate,Sem.run_bind,run_underlying C,Result.andThen_ok,q,yV hK hx,z,List.push_toArray,S6 f]
   .cases H
  .cases H
 .cases H
def ef_ins(hT:qn P T){nx t v x m}{k:V->Nat->Tr Ob->X S1}(o:(lE env v λv=>lE env x λx=>lE env m λm=>oIns T t m x v h λh=>k undef nx h)=.v r):
  ∃v' f h',k v' f h'=.v r/\Yy P env nx h (.mapUpdate t m x v) v' f h'/\Yy P env nx h (.insert t m x v) v' f h':=by
 obtain⟨a,h1,S⟩:=eZ o;obtain⟨b,h2,e⟩:=eZ S;obtain⟨c,h3,p⟩:=eZ e;clear o S e;obtain⟨h',q1,q2⟩:=ins_v hT p;refine⟨_,_,_,q1,⟨zag _,λμ B w tmps d ty pos q g i H hn=>?_⟩,zag _,λμ B w tmps d ty pos q g i H hn=>?_⟩
 .obtain⟨w',j,l,n⟩:=q2 μ B w nx _ _ _ i (eT H h3) (eT H h2) (eT H h1);exact⟨_,μ,w',.inr ⟨by simp only[execOp,Sem.run_bind,j,Result.andThen_ok,Sem.run_pure],rfl⟩,.t .nil,l,n⟩
 .obtain⟨w',j,l,n⟩:=q2 μ B w nx _ _ _ i (eT H h3) (eT H h2) (eT H h1);exact⟨_,μ,w',.inr ⟨by simp only[execOp,Sem.run_bind,j,Result.andThen_ok,Sem.run_pure],rfl⟩,.t .nil,l,n⟩
end ef
section ef
variable {P:uG}{t u e ty:Nat}{ie:TypeInfo}{zv:uB}{w w':uC}{ux:uB}{n pB BS:Nat}{us:LQ uB}
inductive N7 (P:uG) (ie:TypeInfo) (zv:uB) (u:Nat) (w:uC):uB->Nat->List uB->Prop
 | z {j j':IntKind} (n:Nat) (hu:P.underlying u=some (.int j)) (h1:n<=4611686018427387904) (h2:n*ie.bytes<=140737488355328):N7 P ie zv u w (.int j' n) n (CI.rep zv.cells.toList n)
 | s {d:TypeDesc} {ux:uB} {n:Nat} {us:List uB} (hu:P.underlying u=some d) (hd:d=.string∨∃e,d=.slice e) (hl:∀w',(Builtin.lenOf ux).run P w'=.ok n w') (hf:∀w',w'.heap=w.heap->(Builtin.firstCells ie.size n ux).run P w'=.ok ⟨us⟩ w'):N7 P ie zv u w ux n us
def qo(n):Builtin.zeroCells zv.cells n=⟨CI.rep zv.cells.toList n⟩:=Ea zv.cells n
def S7{α}{z:LQ α}(h:n*z.length=0):CI.rep z n=[]:=zax (by rw[sN];exact h)
def Hw(ht:P.underlying t=some (.slice e))(h:P.info? e=some ie)(f:ie.zero=some zv)(k:zv.cells.size=ie.size){base}(hs:N7 P ie zv u w ux n us)(H:pB+n<=BS)
  (g:(stB (base.map (·.add (pB*ie.size))) us).run P w=.ok () w'):(Builtin.append_ #[t,u] ty #[.slice base pB BS,ux]).run P w=.ok (.slice base (pB+n) BS) w':=by
 cases hs with
 | z n hu h1 h2 =>
  have c:IntKind.i64.wrap (n:Int)=n:=Abs.IS (by omega) (by omega);have g2:¬(281474976710656<(n:Int)*(ie.bytes:Int)):=by rw[←Int.natCast_mul];omega
  have d:¬((n:Int)<0):=by omega
  by_cases h0:n*ie.size=0
  .have i:CI.rep zv.cells.toList n=[]:=S7 (by simp_all);rw[i]at g;have W:w'=w:=by cases base<;>cases g<;>rfl
   subst W;cases base<;>simp[Builtin.append_,run_underlying ht,run_underlying hu,cM h,asInt,asIntOf,c,d,g2,typeInfo,h,H,h0,storeCells]
  .cases base with
   | none =>
    cases g;simp[Builtin.append_,run_underlying ht,run_underlying hu,cM h,asInt,asIntOf,c,d,g2,typeInfo,h,H,h0,zeroValue,f]
   | some a =>
    have g:(storeCells (a.add (pB*ie.size)) (CI.rep zv.cells.toList n) 0).run P w=.ok () w':=g;simp[Builtin.append_,run_underlying ht,run_underlying hu,cM h,asInt,asIntOf,c,d,g2,typeInfo,h,H,h0,zeroValue,f,qo,g]
 | s hu j hl b =>
  have b:=b w rfl;have hl:=hl w;rcases j with rfl|⟨l,rfl⟩
  all_goals
   cases base with
   | none =>
    cases g;simp[Builtin.append_,run_underlying ht,run_underlying hu,cM h,hl,H,b]
   | some a =>
    have g:(storeCells (a.add (pB*ie.size)) us 0).run P w=.ok () w':=g;simp[Builtin.append_,run_underlying ht,run_underlying hu,cM h,hl,H,b,g]
def YC(ht:P.underlying t=some (.slice e))(h:P.info? e=some ie)(H:ie.zero=some zv)(k:zv.cells.size=ie.size){base olds}(hs:N7 P ie zv u w ux n us)(g:¬pB+n<=BS)
  (h1:pB+n<=4611686018427387904) (h2:(pB+n)*ie.bytes<=140737488355328) (a:(Builtin.firstCells ie.size pB (.slice base pB BS)).run P w.drew=.ok ⟨olds⟩ w.drew) :
  (Builtin.append_ #[t,u] ty #[.slice base pB BS,ux]).run P w=.ok (.slice (some ⟨w.heap.size,0,none⟩) (pB+n) (grownCap w (pB+n) BS e))
   (w.drew.alloc (.cells ⟨olds++us++CI.rep zv.cells.toList (grownCap w (pB+n) BS e-(pB+n))⟩ e)):=by
 have D:¬(9223372036854775807<((pB:Int)+(n:Int))):=by omega
 have G:¬(281474976710656<Builtin.nextslicecap (pB+n) BS*ie.bytes):=by
  have:=growslice_fits (need:=pB+n) (old:=BS) (by omega) h2;omega
 cases hs with
 | z n hu j I =>
  have c:IntKind.i64.wrap (n:Int)=n:=Abs.IS (by omega) (by omega);have g2:¬(281474976710656<(n:Int)*(ie.bytes:Int)):=by rw[←Int.natCast_mul];omega
  have d:¬((n:Int)<0):=by omega
  by_cases h0:n*ie.size=0
  .have f:CI.rep zv.cells.toList n=[]:=S7 (by simp_all);rw[f];simp[Builtin.append_,run_underlying ht,run_underlying hu,cM h,asInt,asIntOf,c,d,g2,typeInfo,h,g,h0,D,G,Question.forced,a,zeroValue,H,newRow,grownCap,qo]
  .simp[Builtin.append_,run_underlying ht,run_underlying hu,cM h,asInt,asIntOf,c,d,g2,typeInfo,h,g,h0,D,G,Question.forced,a,zeroValue,H,newRow,grownCap,qo]
 | s hu i hl b =>
  have b:=b w.drew rfl;have hl:=hl w;rcases i with rfl|⟨l,rfl⟩
  all_goals
   simp[Builtin.append_,run_underlying ht,run_underlying hu,cM h,hl,g,b,D,G,Question.forced,a,zeroValue,typeInfo,h,H,newRow,grownCap,qo]
end ef
def HR.reuse{μ B h h' w w' o nx x y pl pl'}(k:HR μ B h w)(hx:h o=some x)(hl:live x=true)(m:μ o=some pl)(G:μ nx=none)
  (n:∀j,h' j=if j=nx then some y else if j=o then some .g else h j) (hy:∀cs,y≠.k cs) (C:pl'.b=pl.b) (hs:w'.heap.size=w.heap.size) (u:∀b,b≠pl.b->w'.heap[b]?=w.heap[b]?) (J:w'.os=w.os) (v:w'.tape=w.tape) (A:w'.output=w.output)
  (I:LG (μ.add nx pl') pl' w' y):HR (μ.add nx pl') B h' w'/\Ev μ h w (μ.add nx pl') h' w' nx (nx+1):=by
 have c:=Mp.Hq (pl:=pl') G;have D:=k.low o x pl hx hl m;have d:∀j q,j≠nx->(μ.add nx pl') j=some q->μ j=some q:=λj q e d=>by unfold Mp.add at d;rw[zaa e]at d;exact d
 refine⟨⟨by rw[hs];omega,λj z H=>?_,λj z q H i L=>?_,λj cs q H L=>?_,λj l z E q p K H t i r f s=>?_⟩,
  c,λj N a=>?_,J,v,A,zex hs.symm,λb M hn=>u b λe=>hn ⟨o,x,pl,hx,hl,m,e.symm⟩,λb M ⟨j,z,q,h1,h2,h3,h4⟩=>?_,zek _,λj H=>?_⟩
 .rw[n]at H;by_cases e:j=nx
  .rw[zab e]at H;cases H;subst e;exact⟨pl',Mp.add_same,I⟩
  .rw[zaa e]at H;by_cases a:j=o
   .rw[zab a]at H;cases H;subst a;exact⟨pl,c _ _ m,trivial⟩
   .rw[zaa a]at H;obtain⟨q,h1,h2⟩:=k.ob j z H;refine⟨q,c _ _ h1,?_⟩;cases i:live z with
    | true=>exact h2.mono c (u _ (k.sep j o z x q pl a H hx i hl h1 m))
    | false =>
     cases z with
     | g=>trivial
     | k cs=>exact h2.mono c (u _ (by have:=k.Wg j cs q H h1;omega))
     | _=>cases i
 .rw[n]at H;rw[hs];by_cases e:j=nx
  .subst e;rw[Mp.add_same]at L;simp_all
  .rw[zaa e]at H;by_cases a:j=o
   .rw[zab a]at H;simp_all
   .rw[zaa a]at H;exact k.low j z q H i (d j q e L)
 .rw[n]at H;by_cases e:j=nx
  .rw[zab e]at H;simp_all
  .rw[zaa e]at H;by_cases a:j=o
   .rw[zab a]at H;cases H
   .rw[zaa a]at H;exact k.Wg j cs q H (d j q e L)
 .rw[n]at H t;by_cases e:j=nx
  .by_cases e':l=nx
   .omega
   .rw[zaa e']at t;subst e;rw[Mp.add_same]at f;cases f;by_cases a:l=o
    .rw[zab a]at t;cases t;cases r
    .rw[zaa a]at t;rw[C];exact k.sep o l x E pl p (zcq a) hx t hl r m (d l p e' s)
  .rw[zaa e]at H;by_cases a:j=o
   .rw[zab a]at H;cases H;cases i
   .rw[zaa a]at H;by_cases e':l=nx
    .subst e';rw[Mp.add_same]at s;cases s;rw[C];exact k.sep j o z x q pl a H hx i hl (d j q e f) m
    .rw[zaa e']at t;by_cases F:l=o
     .rw[zab F]at t;cases t;cases r
     .rw[zaa F]at t;exact k.sep j l z E q p K H t i r (d j q e f) (d l p e' s)
 .by_cases e:j=nx
  .omega
  .unfold Mp.add at a;rw[zaa e]at a;simp_all
 .rw[n]at h1;by_cases e:j=nx
  .subst e;rw[Mp.add_same]at h3;cases h3;exact⟨o,x,pl,hx,hl,m,by omega⟩
  .rw[zaa e]at h1;by_cases a:j=o
   .rw[zab a]at h1;cases h1;cases h2
   .rw[zaa a]at h1;exact⟨j,z,q,h1,h2,d j q e h3,h4⟩
 grind
section ef
variable {P:uG}{T:Tr TI}{r:S1}{μ:Mp}{env:Tr V}{h:Tr Ob}{t u e ty:Nat}{ie:TypeInfo}{zv:uB}
structure AppS(P:uG)(t u e:Nat)(ie:TypeInfo)(zv:uB)(s:V)(n:Nat)(new:LQ V)(nx:Nat)(h:Tr Ob)(v:V)(du:Nat)(h':Tr Ob):Prop where
 le:nx<=du
 run:∀μ B w us su ux ty,HR μ B h.get w->(∀o,nx<=o->o<du->μ o=none)->R μ s su->Rs μ new us->(∀u∈us,u.oneCell'=true)->N7 P ie zv u w ux n us ->
  ∃vu μ' w',(Builtin.append_ #[t,u] ty #[su,ux]).run P w=.ok vu w'/\R μ' v vu/\HR μ' B h'.get w'/\Ev μ h.get w μ' h'.get w' nx du
def QW{sz eb n old new nx k}(H:X1 e sz eb n old new nx h k=.v r):
  n<=4611686018427387904/\n*eb<=140737488355328/\∃h',k (.l nx 0 n none) (nx+1) h'=.v r/\∀j,h'.get j=if j=nx then some (.c e sz (old++new))else h.get j:=by
 unfold X1 at H;split at H
 .cases H
 .rename_i a;simp only[zam]at a;rw[Cd]at H;obtain⟨h',q1,q2⟩:=lF H;rw[dI,dI]at q1;exact⟨zae a.1,zae a.2,h',q1,q2⟩
def QX{m n nx kc old new olds us B h1 h' w}(ht:P.underlying t=some (.slice e))(H:P.info? e=some ie)(d:ie.zero=some zv)(k:zv.cells.size=ie.size)(J:∀u∈zv.cells.toList,u.oneCell'=true){base ux}(hs:N7 P ie zv u w ux n us)(g:¬m+n<=kc)
  (b1:m+n<=4611686018427387904) (b2:(m+n)*ie.bytes<=140737488355328) (f:(Builtin.firstCells ie.size m (.slice base m kc)).run P w.drew=.ok ⟨olds⟩ w.drew)
  (hH:HR μ B h1 w) (hn:μ nx=none) (hold:Rs μ old olds) (z:Rs μ new us) (o1:∀u∈olds,u.oneCell'=true) (i:∀u∈us,u.oneCell'=true) (hlen:(olds++us).length=(m+n)*ie.size)
  (o:∀j,h' j=if j=nx then some (.c e ie.size (old++new))else h1 j) :
  ∃v μ' w',(Builtin.append_ #[t,u] ty #[.slice base m kc,ux]).run P w=.ok v w'/\R μ' (.l nx 0 (m+n) none) v/\HR μ' B h' w'/\Ev μ h1 w μ' h' w' nx (nx+1):=by
 have p:=YC (ty:=ty) ht H d k hs g b1 b2 f;have h:=grownCap_ge w (m+n) kc e;obtain⟨a,b⟩:=Hv (w':=w.drew.alloc (.cells ⟨olds++us++CI.rep zv.cells.toList (grownCap w (m+n) kc e-(m+n))⟩ e)) (vs:=olds++us) (post:=CI.rep zv.cells.toList (grownCap w (m+n) kc e-(m+n))) (fz:=(0,0)) hH hn o rfl (.inl (zag _)) rfl rfl rfl (hold.append z)
  (λu q=>(zbi.1 q).elim (o1 u) (i u))
 refine⟨_,_,_,p,.l 0 (m+n) none (grownCap w (m+n) kc e) Mp.add_same h (.inr ⟨rfl,?_⟩),a,b⟩;show 0+grownCap w (m+n) kc e*ie.size=(olds++us).length+(CI.rep zv.cells.toList (grownCap w (m+n) kc e-(m+n))).length;rw[hlen,sN,zbx,k,←zcu,zbh,show m+n+(grownCap w (m+n) kc e-(m+n))=grownCap w (m+n) kc e by omega]
end ef
section ef
variable {P:uG}{T:Tr TI}{r:S1}{μ:Mp}{env:Tr V}{h:Tr Ob}{t u e ty:Nat}{ie:TypeInfo}{zv:uB}
def app0(ht:P.underlying t=some (.slice e))(n:P.info? e=some ie)(h:ie.zero=some zv)(k:zv.cells.size=ie.size){w ux us}(hs:N7 P ie zv u w ux 0 us)(hl:us.length=0){base m kc}(hm:m<=kc){ty:Nat}:
  (Builtin.append_ #[t,u] ty #[.slice base m kc,ux]).run P w=.ok (.slice base m kc) w:=by
 have:us=[]:=zax hl;subst this;exact Hw ht n h k hs (by omega) (by cases base<;>rfl)
def oApp_v(ht:P.underlying t=some (.slice e))(z:P.info? e=some ie)(A:ie.zero=some zv)(C:zv.cells.size=ie.size)(Q:∀u∈zv.cells.toList,u.oneCell'=true){s n nx new}(V7:new.length=n*ie.size)
  {k} (H:X2 s e ie.size ie.bytes n new nx h k=.v r):∃v du h',k v du h'=.v r/\AppS P t u e ie zv s n new nx h v du h':=by
 unfold X2 at H;split at H
 .split at H
  .refine⟨_,_,_,H,zag _,λμ B w us F ux ty f hn hs d h1 p=>?_⟩;have hl:=d.len;cases hs;exact⟨_,μ,w,app0 ht z A C p (by omega) (zag _),.c _,f,.refl _ _ _ _⟩
  .rename_i n0;obtain⟨b1,b2,h',q1,q2⟩:=QW H;refine⟨_,_,_,q1,zek _,λμ B w us F ux ty f hn hs d h1 p=>?_⟩;have hl:=d.len;cases hs;have Jw:¬n=0:=λe=>n0 e
   have:=QX (m:=0) (n:=n) (kc:=0) (old:=[]) (olds:=[]) (base:=none) (ty:=ty) ht z A C Q p (by omega) (by omega) (by rw[zbh];exact b2) (by simp[Builtin.firstCells]) f (hn nx (zag _) (zdf _)) .nil d (λu q=>by cases q) h1 (by grind) q2
   rw[zbh]at this;exact this
 .rename_i o off m c;split at H
  .refine⟨_,_,_,H,zag _,λμ B w us F ux ty f hn hs d h1 p=>?_⟩;have hl:=d.len;cases hs with
   | l _ _ _ kc x Y a=>exact⟨_,μ,w,app0 ht z A C p (by omega) Y,.l off m c kc x Y a,f,.refl _ _ _ _⟩
  .rename_i n0;split at H
   .rename_i c;split at H
    .rename_i i;have i:=zae i;obtain⟨h',q1,q2⟩:=stO_v (P:=P) H;rw[dI]at q1;refine⟨_,_,_,q1,zag _,λμ B w us F ux ty f hn hs d h1 p=>?_⟩;cases hs with
     | l _ _ _ kc x Y a =>
      obtain rfl:c=kc:=by rcases a with a|⟨a,_⟩<;>cases a;rfl
      obtain⟨w',w1,w2,w3⟩:=q2 μ B w _ nx us f x d h1;exact⟨_,μ,w',Hw ht z A C p i (by rw[←zcw]at w1;simpa[stB,mX] using w1),.l off (m+n) _ c x i (.inl rfl),w2,w3⟩
    .rename_i i;have i:¬m+n<=c:=λe=>by rw[zfy e]at i;cases i
     obtain⟨cs,R,r2,S⟩:=LL H;obtain⟨b1,b2,h',q1,q2⟩:=QW S;refine⟨_,_,_,q1,zek _,λμ B w us F ux ty f hn hs d h1 p=>?_⟩;have hl:=d.len;obtain⟨pl,Kw,x,G⟩:=N5 R f;obtain⟨vs,xb,L⟩:=va G;have T:=xb.len;cases hs with
     | l _ _ _ kc xi Y a =>
      rw[x]at xi;cases xi;obtain rfl:c=kc:=by rcases a with a|⟨a,_⟩<;>cases a;rfl
      have D:(Builtin.firstCells ie.size m (.slice (some ⟨pl.b,pl.base+off,none⟩) m c)).run P w.drew=.ok ⟨(vs.drop off).take (m*ie.size)⟩ w.drew:=qz (P:=P) (w:=w.drew) (L.same rfl) (off:=off) (n:=m*ie.size) (by omega);exact QX (ty:=ty) ht z A C Q p i b1 b2 D f (hn nx (zag _) (zdf _)) ((xb.drop off).take _) d (λu q=>L.one u (zca (zco q))) h1
       (by rw[zar,zaw,zbc,zcu];omega) q2
   .split at H
    .rename_i U s0 cs M;split at H
     .rename_i dE;simp only[zam]at dE;have z0:e=U:=(zai dE.1).symm;have z3:=zai dE.2.1;have z1:=zai dE.2.2.1;have z2:=zae dE.2.2.2;subst z0;subst z1;split at H
      .cases H
      .rename_i i;obtain⟨vC,R,r2,S⟩:=LL H;obtain⟨V,s1,s2⟩:=lF S;obtain⟨b1,b2,h',q1,q2⟩:=QW s1;refine⟨_,_,_,q1,zek _,λμ B w us F ux ty f hn hs d h1 p=>?_⟩;have hl:=d.len;obtain⟨pl,W,p2,p0,fz,pre,vs,post,X,p4,p5,p6,Z,p8⟩:=f.ob o _ M;have T:=Z.len;obtain rfl:cs=vC:=by simpa[row,M] using R
       have E:=hn nx (zag _) (zdf _);have dz:¬o=nx:=λe=>by simp_all
       have hMN:(m+n)*ie.size=m*ie.size+n*ie.size:=zcu _ _ _;cases hs with
       | l _ _ _ kc x Y a =>
        rw[W]at x;cases x;have hx:off+kc*pl.sz=pl.ext:=by rcases a with a|⟨_,a⟩<;>first|(cases a;done)|exact a
        rw[p2]at hx;by_cases N:m+n<=kc
        .have hle:(m+n)*ie.size<=kc*ie.size:=zbn _ N;have bK:=Eb (P:=P) pl.b (pl.base+off+m*ie.size) e fz us 0 _ w X (p4.imp id λh=>by omega) (by grind) h1;simp only[zct]at bK;have I:(pre++(vs++post)).take (pl.base+off+m*ie.size)++us++(pre++(vs++post)).drop (pl.base+off+m*ie.size+us.length) =
           (pre++(vs++post)).take (pl.base+off)++(((vs.drop off).take (m*ie.size)++us)++(pre++(vs++post)).drop (pl.base+off+m*ie.size+us.length)):=by
          rw[←p5];grind
         rw[I]at bK;have J:=f.reuse (h':=h'.get) (pl':=⟨pl.b,pl.base+off,pl.ext-off,ie.size⟩) (y:=.c e ie.size ((cs.drop off).take (m*ie.size)++new)) (w':=w.setRow pl.b ⟨(pre++(vs++post)).take (pl.base+off)++(((vs.drop off).take (m*ie.size)++us)++(pre++(vs++post)).drop (pl.base+off+m*ie.size+us.length))⟩)
          M rfl W E (λj=>by
           rw[q2 j];by_cases O:j=nx
           .rw[zab O,zab O]
           .rw[zaa O,zaa O,s2 j]) (λcs e=>by cases e) rfl (by simp) (λb i=>setRow_other w pl.b b _ i) rfl rfl rfl
          ⟨rfl,(by simp_all),fz,_,_,_,setRow_heap w pl.b _ _ e fz X,p4.imp id λh=>(show pl.base+off+(pl.ext-off)<=fz.1 by omega),by grind,by grind,(((Z.drop off).take _).append d).mono (Mp.Hq E),λu q=>(zbi.1 q).elim (λq=>p8 u (zca (zco q))) (h1 u)⟩
         refine⟨_,_,_,Hw ht z A C p N (by simpa[stB,mX] using bK),.l 0 (m+n) none kc Mp.add_same N (.inr ⟨rfl,?_⟩),J.1,J.2⟩;simp_all
        .have L:Cells w pl vs :=  QU X p5 p8;have K:=f.xn (h':=V.get) (n:=nx) (w':=w) (x':=.g) M rfl W s2 (λcs e=>by cases e) rfl (λb i=>rfl) rfl rfl rfl trivial;have D:(Builtin.firstCells ie.size m (.slice (some ⟨pl.b,pl.base+off,none⟩) m kc)).run P w.drew=.ok ⟨(vs.drop off).take (m*ie.size)⟩ w.drew:=qz (P:=P) (w:=w.drew) (L.same rfl) (off:=off) (n:=m*ie.size) (by omega);obtain⟨vu,μ',w',g1,g2,g3,g4⟩:=QX (ty:=ty) ht z A C Q p N b1 b2 D K.1 E ((Z.drop off).take _) d (λu q=>p8 u (zca (zco q))) h1
          (by rw[zar,zaw,zbc,zcu];omega) q2
         exact⟨vu,μ',w',g1,g2,g3,K.2.trans g4⟩
     .cases H
    .cases H
 .cases H
end ef
end Go.CI
namespace Go.CI
open Go.RowKit
section next
variable {P:uG}{T:Tr TI}{r:S1}{μ:Mp}{env:Tr V}{h:Tr Ob}
def ef_next{nx x k}(J:(lE env x λx=>X4 x nx h k)=.v r):∃v K h',k v K h'=.v r/\Yy P env nx h (.next x true) v K h':=by
 obtain⟨a,h1,H⟩:=eZ J;clear J;unfold X4 at H;split at H
 .rename_i o;split at H
  .rename_i s pos z;rw[cV]at H;split at H
   .rename_i b m;split at H
    .rename_i D;rw[dI]at H;obtain⟨h',q1,q2⟩:=lF H;refine⟨_,_,_,q1,zag _,λμ B w tmps d ty ps N g l E F=>?_⟩;have hx:=eT E h1;generalize G:Act.eval ⟨tmps,[]⟩ x=u at hx;obtain⟨pl,q,A,bs,C,I⟩:=l.ob o _ z;cases hx with
     | p _ y =>
      rw[q]at y;cases y;have O:=(l.low o _ pl z rfl q).2;obtain⟨s1,s2⟩:=l.xn (n:=nx) (w':={ w with heap:=w.heap.setIfInBounds pl.b (.stringIter ⟨⟨bs⟩⟩ (pos+1)) }) z rfl q q2 (λcs e=>by cases e) (by simp) (λb m=>by grind) rfl rfl rfl ⟨A,bs,C,by simp[O]⟩;subst C;rw[zau]at m;obtain⟨c,L,rfl⟩:=zcp.1 m;have j:pos<bs.length:=(zad.1 L).1;have f:pos<(⟨⟨bs⟩⟩:ByteArray).size:=j;have M:(⟨⟨bs⟩⟩:ByteArray)[pos]'f=c:=by
       have:=(zad.1 L).2;exact this
      have i:=decode_ascii ⟨⟨bs⟩⟩ pos f (by rw[M];have:=zae D;omega);rw[M]at i;refine⟨.tuple #[.bool true,.int .i64 pos,.int .i32 (c.toNat:Int)],μ,_,.inl ?_,.t (.cons (.c _) (.cons (.c _) (.cons (.c _) .nil))),s1,s2⟩;simp only[execOp,G,A];simp[Instr.next,getObj,setObj,Sem.run,I,f,i,goInt]
    .cases H
   .rename_i m;refine⟨_,_,_,H,zag _,λμ B w tmps d ty ps N g l E F=>?_⟩;have hx:=eT E h1;generalize G:Act.eval ⟨tmps,[]⟩ x=u at hx;obtain⟨pl,q,A,bs,C,I⟩:=l.ob o _ z;cases hx with
    | p _ y =>
     rw[q]at y;cases y;subst C;have j:¬pos<(⟨⟨bs⟩⟩:ByteArray).size:=by
      rw[List.getElem?_eq_none_iff]at m;show ¬pos<bs.length;simp_all
     refine⟨.tuple #[.bool false],μ,w,.inl ?_,.t (.cons (.c _) .nil),l,.refl _ _ _ _⟩;simp only[execOp,G,A];simp[Instr.next,getObj,Sem.run,I,j]
  .cases H
 .cases H
end next
section us
variable {P:uG}{T:Tr TI}{r:S1}{μ:Mp}{env:Tr V}{h:Tr Ob}
def args1{x}{xs:uD uH}(h1:Evs env xs.toList [x]){tmps}(he:ER μ env tmps):∃u,R μ x u/\xs.map (Act.eval ⟨tmps,[]⟩)=⟨[u]⟩:=by
 have h:=Cg he h1;rw[←zfv]at h;generalize hy:(xs.map (Act.eval ⟨tmps,[]⟩))=ys at h;obtain⟨ys⟩:=ys;cases h with
 | cons H h=>cases h;simp_all
def args2{x y}{xs:uD uH}(h1:Evs env xs.toList [x,y]){tmps}(he:ER μ env tmps):∃u v,R μ x u/\R μ y v/\xs.map (Act.eval ⟨tmps,[]⟩)=⟨[u,v]⟩:=by
 have h:=Cg he h1;rw[←zfv]at h;generalize hy:(xs.map (Act.eval ⟨tmps,[]⟩))=ys at h;obtain⟨ys⟩:=ys;cases h with
 | cons a h =>
  cases h with
  | cons H h=>cases h;simp_all
def ef_sd{nx xs ts k}(b:(bZ env xs.toList λl=>eBu T .unsafeSliceData ts.toList l nx h k)=.v r):
  ∃v d h',k v d h'=.v r/\Yy P env nx h (.call ⟨.builtin .unsafeSliceData,xs,ts⟩) v d h':=by
 obtain⟨l,h1,H⟩:=Ce b;clear b;unfold eBu at H;simp only[eSD]at H;split at H
 .rename_i o off n c;refine⟨_,_,_,H,zag _,λμ B w tmps s ty pos t g f i hn=>?_⟩;obtain⟨u,j,hy⟩:=args1 h1 i;cases j with
  | l _ _ _ kc q Y x =>
   obtain⟨m,rfl⟩:∃m,kc=m+1:=⟨kc-1,by omega⟩;refine⟨_,μ,w,.inl ?_,.p _ q,f,.refl _ _ _ _⟩;have e:=λa=>Go.Lib.run_unsafeSliceData_row (P:=P) w ts ty a (n+1) (m+1) (by omega)
   simp only[execOp,resolve,hy,invoke,builtin,Sem.run_bind,Sem.run_pure,Result.andThen_ok];rw[e];rfl
 .cases H
def YD{e}(H:P.cellsOf e=1)(count off n)(hn:off+n<=count):liesAt P P.depth e count off e n=true:=by
 have h:P.depth=(2*(P.types.size+Made.depth)+1)+1:=rfl;rw[h];simp only[liesAt,zcj];left;rw[h];simp[rowAt,H,hn,sameLayout,Nat.mod_one]
def us_run w ts(pt ty e)(U:ts[0]?=some pt)(i:P.underlying pt=some (.pointer e))(f:P.cellsOf e=1)(g off cells)(c:w.shape? g=some (e,cells)) l(h0:l≠[])(hn:off+l.length<=cells)(m:l.length<=9223372036854775807)
  (k:∀j x,l[j]?=some x->w.cell? ((⟨g,off,none⟩:Addr).add j)=some (.int .u8 x.toNat)) :
  (Builtin.unsafeString_ ts ty #[.pointer (some ⟨g,off,none⟩),.int .i64 l.length]).run P w=.ok (.string ⟨l.toArray⟩) (w.freeze ⟨g,off,none⟩ l.length):=by
 have hl:l.length≠0:=by simp_all
 have d:=Go.Lib.run_loadBytes (P:=P) w l ⟨g,off,none⟩ .empty k;have h:=YD (P:=P) f (cells / P.cellsOf e) off l.length (by rw[f];omega);have D:¬(9223372036854775807:Int)<(l.length:Int):=by omega
 have H:IntKind.i64.max=9223372036854775807:=rfl;have a:¬(l.length:Int)<0:=by omega
 show (asInt (.int .i64 l.length)>>=_:Sem _).run P w=_
 simp[asInt,asIntOf,H,D,a,hl,U,variablesAt,c,elemOf,run_underlying i,h,d]
def ef_us(hT:qn P T){nx xs ts k}(A:(bZ env xs.toList λl=>eBu T .unsafeString ts.toList l nx h k)=.v r):
  ∃v C h',k v C h'=.v r/\Yy P env nx h (.call ⟨.builtin .unsafeString,xs,ts⟩) v C h':=by
 obtain⟨l,h1,H⟩:=Ce A;clear A;unfold eBu at H;simp only[eUS]at H;split at H
 .rename_i t tl U;have R:=get0 U;split at H
  .rename_i i hi;obtain⟨inf,ds,S,G,rfl⟩:=ti hT hi;split at H
   .rename_i hk;obtain⟨e',rfl⟩:=tk_pt hk;split at H
    .rename_i o off n;split at H
     .rename_i e cs m;split at H
      .rename_i a;simp only[zam]at a;have b1:e=e':=zai a.1;have b2:=zae a.2.1;have V:=zae a.2.2.1;have I:=zae a.2.2.2;subst b1;split at H
       .rename_i j f;obtain⟨c,J,K,W,rfl⟩:=ti hT f;split at H
        .rename_i dE;have dE:c.size=1:=zai dE;rw[Cc,Hn]at H;obtain⟨bs,H,q⟩:=toBs H;obtain⟨h',q1,q2⟩:=lF H;refine⟨_,_,_,q1,zag _,λμ B w tmps X ty pos Y g y L hn=>?_⟩;obtain⟨u,v,hu,hv,hy⟩:=args2 h1 L;obtain⟨pl,z,Z,p0,fz,pre,vs,post,D,p4,p5,p6,E,p8⟩:=y.ob o _ m;cases hv;cases hu with
         | p _ F =>
          rw[z]at F;cases F;have M:=E.len;have d:=q μ _ ((E.drop off).take n);have hlen:bs.length=n:=by
           have:=zaq List.length d
           grind
          subst hlen;have bS:=(y.low o _ pl m rfl z).2;have N:=us_run (P:=P) w ts t ty e R G (by simp[Program.cellsOf,K,dE]) pl.b (pl.base+off) (pre++(vs++post)).length (by simp[World.shape?,D]) bs (λe=>by rw[e]at b2;simp at b2) (by grind) I (λj x f=>by
           have h2:((vs.drop off).take bs.length)[j]?=some (.int .u8 (x.toNat:Int)):=by rw[d,zau,f];rfl
           have O:=(zad.1 f).1;rw[zah,zab O,zbd]at h2;rw[mX];have:w.cell? ⟨pl.b,pl.base+off+j,none⟩=(pre++(vs++post))[pl.base+off+j]?:=by simp[World.cell?,D]
           rw[this,zan (by omega),zaj (by omega),←h2];simp_all)
          obtain⟨s1,s2⟩:=y.xn (n:=nx) (w':=w.freeze ⟨pl.b,pl.base+off,none⟩ bs.length) (x':=.g) m rfl z q2 (λcs e=>by cases e) (by unfold World.freeze;split<;>simp) (λb a=>by
           unfold World.freeze
           grind) (by unfold World.freeze;split<;>rfl) (by unfold World.freeze;split<;>rfl) (by unfold World.freeze;split<;>rfl) trivial
          refine⟨_,μ,_,.inl ?_,.s bs,s1,s2⟩;simp only[execOp,resolve,hy,invoke,builtin,Sem.run_bind,Sem.run_pure,Result.andThen_ok];have Q:=N;rw[show(Int.ofNat bs.length)=((bs.length:Nat):Int)from rfl,Q];rfl
        .cases H
       .cases H
      .cases H
     .cases H
    .cases H
   .cases H
  .cases H
 .cases H
end us
end Go.CI
namespace Go.CI
open Go.RowKit
open Go.Abs
section ef
variable {P:uG}{T:Tr TI}{r:S1}{env:Tr V}{h:Tr Ob}
def U7(hT:qn P T){nx xs ts k}(D:(bZ env xs.toList λl=>eBu T .append ts.toList l nx h k)=.v r):
  ∃v c h',k v c h'=.v r/\Yy P env nx h (.call ⟨.builtin .append,xs,ts⟩) v c h':=by
 obtain⟨l,h1,H⟩:=Ce D;clear D;unfold eBu at H;simp only at H;split at H
 .rename_i s x;unfold SL at H;split at H
  .rename_i t u X;have J:ts=#[t,u]:=by grind
   subst J;split at H
   .rename_i i hi;obtain⟨inf,ds,Y,K,rfl⟩:=ti hT hi;split at H
    .rename_i e hk;obtain⟨rfl,ie,Z,y,L⟩:=ya hk;have M:LA P e=ie.bytes:=by unfold LA;rw[y]
     simp only[FJ,rF y,M]at H;split at H
     .rename_i z E;obtain⟨QT,zv,F,N,O,Q⟩:=Ch E;rw[y]at F;cases F;have S:∀μ,Rs μ z zv.cells.toList/\∀x∈zv.cells.toList,x.oneCell'=true:=λμ=>tL E (O▸Hr μ zv)
      have args:∀{μ:Mp} {tmps:uD uB},ER μ env tmps->∃a b,R μ s a/\R μ x b/\xs.map (Act.eval ⟨tmps,[]⟩)=#[a,b]:=fun {μ tmps} A=>by
       have f:=Cg A h1;rw[←zfv]at f;generalize hy:(xs.map (Act.eval ⟨tmps,[]⟩))=ys at f;obtain⟨ys⟩:=ys;cases f with
       | cons hd f=>cases f with
        | cons A f=>cases f;simp_all
      have fin:∀{n:Nat} {new:LQ V},new.length=n*ie.size->X2 s e ie.size ie.bytes n new nx h k=.v r ->
        (∀μ B w b,HR μ B h.get w->R μ x b->∃us,Rs μ new us/\(∀u∈us,u.oneCell'=true)/\N7 P ie zv u w b n us)->∃v c h',k v c h'=.v r/\Yy P env nx h (.call ⟨.builtin .append,xs,#[t,u]⟩) v c h':=by
       intro n new hl H hs;obtain⟨v,c,h',q1,q2⟩:=oApp_v (u:=u) K y N Q (S λ_=>none).2 hl H;refine⟨v,c,h',q1,q2.le,λμ B w tmps d ty pos af g p A hn=>?_⟩;obtain⟨a,b,ha,q,hy⟩:=args A;obtain⟨us,m,k2,k3⟩:=hs μ B w b p q;obtain⟨U,μ',w',g1,g2,g3,g4⟩:=q2.run μ B w us a b ty p hn ha m k2 k3;exact⟨U,μ',w',.inl (by simp only[execOp,resolve,hy,Sem.run_bind,Sem.run_pure,Result.andThen_ok,invoke,builtin,g1]),g2,g3,g4⟩
      split at H
      .rename_i j W;obtain⟨G,d2,f1,I,rfl⟩:=ti hT W;split at H
       .rename_i e' o;obtain⟨rfl,_⟩:=ya o;obtain⟨n,cs,H,hl,hs⟩:=S5 (P:=P) H;refine fin hl H λμ B w b p q=>?_
        obtain⟨us,m,k2,k3,k4⟩:=hs μ B w b p q;refine⟨us,m,k2,.s I (.inr ⟨_,rfl⟩) k3 λw' C=>?_⟩;rw[k4 w' n C (zag _),zbj (by rw[←m.len,hl];omega)]
       .rename_i o;have:=AN o;subst this;obtain⟨n,cs,H,hl,hs⟩:=S5 (P:=P) H;refine fin hl H λμ B w b p q=>?_
        obtain⟨us,m,k2,k3,k4⟩:=hs μ B w b p q;refine⟨us,m,k2,.s I (.inl rfl) k3 λw' C=>?_⟩;rw[k4 w' n C (zag _),zbj (by rw[←m.len,hl];omega)]
       .cases H
      .cases H
     .cases H
    .cases H
   .cases H
  .cases H
 .cases H
def actB_ef(hT:qn P T){nx b xs ts g}(ha:Hi T b xs.toList ts.toList=.ef g){k}(H:g env nx h k=.v r):
  ∃v d h',k v d h'=.v r/\Yy P env nx h (.call ⟨.builtin b,xs,ts⟩) v d h':=by
 unfold Hi at ha;split at ha
 .grind
 .grind
 .cases ha
 .cases ha
 .cases ha;cases b with
  | append=>exact U7 hT H
  | unsafeSliceData=>exact ef_sd H
  | unsafeString=>exact ef_us hT H
  | _=>obtain⟨l,h1,a⟩:=Ce H;cases a
def actC_ef{s t x g}(ha:Hj T s t x=.ef g):False:=by
 unfold Hj at ha
 grind
def act_ef(hT:qn P T){nx o g}(ha:act T o=.ef g){k}(H:g env nx h k=.v r):∃v e h',k v e h'=.v r/\Yy P env nx h o v e h':=by
 unfold act at ha;split at ha
 case h_8=>exact(actC_ef ha).elim
 all_goals first
  | (cases ha;done)
  | skip
 .split at ha<;>cases ha
 .grind
 .grind
 .cases ha;exact YA hT H
 .cases ha;obtain⟨v,a,b,c,d,_⟩:=ef_ins hT H;grind
 .cases ha;exact ef_next H
 .split at ha
  .exact actB_ef hT ha H
  .cases ha
  grind
end ef
inductive DsR (μ:Mp):List Df->List Deferred->Prop
 | nil:DsR μ [] []
 | c {g:Nat} {cs:List V} {vs:List uB} {l:List Df} {m:List Deferred} (h:Rs μ cs vs) (t:DsR μ l m):DsR μ (.c g cs::l) ({ target:=.fn (.func g) ⟨vs⟩,args:=#[] }::m)
 | m {o:Nat} {pl:Pl} {l:List Df} {m:List Deferred} (h:μ o=some pl) (t:DsR μ l m):DsR μ (.m o::l) ({ target:=.collected pl.b,args:=#[] }::m)
def DsR.mono{μ μ'}(e:Le μ μ'):∀{l m},DsR μ l m->DsR μ' l m
 | _,_,.nil=>.nil
 | _,_,.c h t=>.c (h.mono e) (t.mono e)
 | _,_,.m h t=>.m (e _ _ h) (t.mono e)
def RoR(μ:Mp):Option Nat->Option Nat->Prop
 | none,none=>True
 | some l,some b=>∃pl,μ l=some pl/\pl.b=b
 | _,_=>False
def RoR.mono{μ μ'}(e:Le μ μ'):∀{x y},RoR μ x y->RoR μ' x y
 | none,none,_=>trivial
 | some _,some _,⟨pl,h1,h2⟩=>⟨pl,e _ _ h1,h2⟩
structure CR(μ:Mp)(cx:Cx)(ds:LQ Df)(f:Ctx):Prop where
 fn:f.fn=cx.fn
 dk:f.dk=cx.dk
 ro:RoR μ cx.ro f.ro
 ds:DsR μ ds f.ds
def CR.mono{μ μ' cx ds f}(h:CR μ cx ds f)(e:Le μ μ'):CR μ' cx ds f:=⟨h.fn,h.dk,h.ro.mono e,h.ds.mono e⟩
section put
variable {r:S1}
def QY{n d v env k}(h:xc n d v env k=.v r):∃env',k env'=.v r/\∀μ tmps u,ER μ env tmps->n<=tmps.size->R μ v u ->
  ER μ env' (Act.put ⟨tmps,[]⟩ d u).tmps/\n<=(Act.put ⟨tmps,[]⟩ d u).tmps.size:=by
 unfold xc at h;split at h
 .exact⟨env,h,λμ tmps u H hn b=>⟨H,hn⟩⟩
 .rename_i d;split at h
  .rename_i a;have a:=zae a;obtain⟨env',q1,q2⟩:=lF h;refine⟨env',q1,λμ tmps u H hn b=>?_⟩;have c:(Act.put ⟨tmps,[]⟩ (some d) u).tmps=tmps.setIfInBounds d u:=rfl;rw[c];refine⟨λt x hx=>?_,by simp_all⟩;rw[q2 t]at hx;by_cases e:t=d
   .grind
   .rw[zaa e]at hx;obtain⟨y,h1,h2⟩:=H t x hx
    grind
  .cases h
def Cj{l env gd b}(h:D9 l env gd=some b){μ tmps}(he:ER μ env tmps){o}(a:o.guard=gd):Region.wanted o (yielded ⟨l⟩ tmps)=b:=by
 unfold D9 at h;unfold Region.wanted;rw[a];split at h
 .grind
 .rename_i j w;rw[cV]at h;split at h
  .rename_i o' H;split at h
   .rename_i t ht;split at h
    .rename_i b' i;obtain⟨y,h1,h2⟩:=he t _ i;cases h2;simp only[yielded,List.getElem?_toArray,H,zac,ht,h1];simp_all
    .rename_i i;obtain⟨y,h1,h2⟩:=he t _ i;cases h2;simp only[yielded,List.getElem?_toArray,H,zac,ht,h1];simp_all
    grind
   grind
  grind
end put
def N8(P:uG)(cx:Cx)(ds:LQ Df)(o:Oper)(env:Tr V)(h:Hf)(nx:Nat)(v:V)(d:Nat)(h':Hf):=
 nx<=d/\∀μ B w tmps (f) (K) (ops) (i) (rest) (k),ops[i]?=some o->Region.wanted o (yielded ops tmps)=true ->
  HR μ B h w->ER μ env tmps->(∀o,nx<=o->o<d->μ o=none)->jz B w->CR μ cx ds f ->
  (∀u μ' w',R μ' v u->HR μ' B h' w'->Ev μ h w μ' h' w' nx d->bT P f K (.inRegion ops rest::k) (Act.put ⟨tmps,[]⟩ o.dst u).tmps w')->bT P f K (.inRegion ops (i::rest)::k) tmps w
section does
variable {P:uG}{T:Tr TI}{r:S1}{env:Tr V}{h:Tr Ob}{cx:Cx}{ds:LQ Df}{o:Oper}
def S8{h nx v}(hs:LJ P env o.op v):N8 P cx ds o env h nx v nx h:=
 ⟨zag _,λμ B w tmps f K ops i rest k H a b c hn d e hk=>by
  obtain⟨u,h1,h2⟩:=hs μ tmps o.dst o.type o.pos o.after o.guard c;exact bT.value H a (h1 w) (hk u μ w h2 b (.refl _ _ _ _))⟩
def S9{nx v}(hs:Wh P env h o.op v):N8 P cx ds o env h.get nx v nx h.get:=
 ⟨zag _,λμ B w tmps f K ops i rest k a b H c hn d e hk=>by
  obtain⟨u,h1,h2⟩:=hs μ B w tmps o.dst o.type o.pos o.after o.guard H c;exact bT.value a b h1 (hk u μ w h2 H (.refl _ _ _ _))⟩
def Ta{h h' nx v ob}(hs:AlS P env nx o.op v ob)(H:∀j,h' j=if j=nx then some ob else h j):N8 P cx ds o env h nx v (nx+1) h':=
 ⟨zek _,λμ B w tmps f K ops i rest k a b c d hn e g hk=>by
  obtain⟨u,pl,w',h1,h2,h3,h4⟩:=hs μ B h h' w tmps o.dst o.type o.pos o.after o.guard c d (hn nx (zag _) (zdf _)) H;exact bT.value a b h1 (hk u _ w' h2 h3 h4)⟩
def does_ef{nx d v h'}(hs:Yy P env nx h o.op v d h'):N8 P cx ds o env h.get nx v d h'.get:=
 ⟨hs.le,λμ B w tmps f K ops i rest k H a b c hn e g hk=>by
  obtain⟨u,μ',w',h1,h2,h3,h4⟩:=hs.run μ B w tmps o.dst o.type o.pos o.after o.guard b c hn;rcases h1 with h1|⟨h1,rfl⟩
  .exact bT.value H a h1 (hk u μ' w' h2 h3 h4)
  .exact bT.skip H a h1 (hk _ μ' w' h2 h3 h4)⟩
end does
def yc:Cf->List Item
 | .k t=>t
 | .o l rest t=>.inRegion ⟨l⟩ ((List.range l.length).drop (l.length-rest.length))::t
def CfOk:Cf->Prop
 | .k _=>True
 | .o l rest _=>∃pre,l=pre++rest
def Jb(μ:Mp)(B:Nat)(h:Hf)(w:uC)(v:V)(nx d:Nat)(h':Hf)(e:Ending)(w':uC):=
 ∃u μ',e=.returned u/\R μ' v u/\HR μ' B h' w'/\Ev μ h w μ' h' w' nx d
def Jb.N9{μ μ1 B h h1 h' w H v nx n f e w'}(k:Ev μ h w μ1 h1 H nx n):Jb μ1 B h1 H v n f h' e w'->Jb μ B h w v nx f h' e w':=
 λ⟨u,μ',a,b,c,d⟩=>⟨u,μ',a,b,c,k.trans d⟩
def Goal(P:uG)(cx:Cx)(s:FZ)(v:V)(d:Nat)(h':Tr Ob):=
 s.nx<=d/\(CfOk s.cf->∀μ B w tmps (f),HR μ B s.h.get w->ER μ s.env tmps->cx.n<=tmps.size->(∀o,s.nx<=o->o<d->μ o=none)->jz B w->CR μ cx s.ds f ->
  bT P f (Jb μ B s.h.get w v s.nx d h'.get) (yc s.cf) tmps w)
def sO(P:uG)(run:Cx->FZ->(V->Nat->Tr Ob->X S1)->X S1):=
 ∀cx s k r,run cx s k=.v r->∃v d h',k v d h'=.v r/\Goal P cx s v d h'
def Oa(P:uG)(F:Tr Func):= ∀g fn,F.get g=some fn->fnOf P g=some fn
def Oa.fn{P F}(h:Oa P F){g fn}(H:F.get g=some fn):P.funcs[g]?=some fn/\(fn.name == "runtime.NumGoroutine")=false:=by
 have:=h g fn H;unfold fnOf at this
 grind
def ExOk(P:uG)(g:Nat)(x:EF):=
 Enters P g/\∀xs nx h k r,x xs nx h k=.v r->∃v d h',k v d h'=.v r/\nx<=d/\∀μ B w us,HR μ B h.get w->Rs μ xs us->(∀o,nx<=o->o<d->μ o=none)->jz B w->Calls P g ⟨us⟩ w (Jb μ B h.get w v nx d h'.get)
def Tb(P:uG)(E:ET):= ∀g x,E g=some x->ExOk P g x
def Ev.tS{μ μ' h h' w w' n H B}(e:Ev μ h w μ' h' w' n H)(k:HR μ B h w)(g:jz B w):jz B w':=g.below (e.below k)
def HR.grow{μ B n h w w'}(k:HR μ B h w)(b:Below w.heap.size w w'):HR μ B h w'/\Ev μ h w μ h w' n n:=
  ⟨⟨zci k.size b.size,(λo x H=>by
      obtain⟨pl,h1,h2⟩:=k.ob o x H;refine⟨pl,h1,?_⟩;cases hl:live x with
      | true=>exact h2.mono (.refl _) (b.block _ (k.low o x pl H hl h1).2)
      | false =>
        cases x with
        | g=>trivial
        | k cs=>exact h2.mono (.refl _) (b.block _ (by have:=k.Wg o cs pl H h1;have:=k.size;omega))
        | _=>(cases hl)),
    λo x pl H hl d=>let q:=k.low o x pl H hl d;⟨q.1,zaz q.2 b.size⟩,k.Wg,k.sep⟩,
   .refl _,λo h k=>absurd h k,b.os,b.tape,b.output,b.size,λc a _=>b.block c a,λc a H=>H,zag _,λ_ h=>h⟩
section calls
variable {P:uG}{T:Tr TI}{F:Tr Func}{E:ET}{run:Cx->FZ->(V->Nat->Tr Ob->X S1)->X S1}{r:S1}{env:Tr V}{h:Tr Ob}{cx:Cx}{ds:LQ Df}{o:Oper}
def Tc:∀{xs i t k},SM i xs t k=.v r->∃env,k env=.v r/\∀j,env.get j=if i<=j/\j<i+xs.length then xs[j-i]? else t.get j
 | [],i,t,k,h=>⟨t,h,λj=>by rw[zaa (by simp)]⟩
 | v::xs,i,t,k,h=>by
  unfold SM at h;obtain⟨a,q1,q2⟩:=lF h;obtain⟨env,e,H⟩:=Tc q1;refine⟨env,e,λj=>?_⟩;rw[H j,q2 j]
  grind
def args_ER{μ xs us env n}(h:Rs μ xs us)(he:∀j,env.get j=if 0<=j/\j<0+xs.length then xs[j-0]? else Tr.e.get j):
  ER μ env (⟨us⟩++Array.replicate (n-us.length) Go.undef)/\n<=(⟨us⟩++Array.replicate (n-us.length) Go.undef).size:=by
 refine⟨λt v hv=>?_,by grind⟩;rw[he t]at hv;split at hv
 .rename_i ht;obtain⟨u,h1,h2⟩:=h.get (by omega);have:=(zad.1 h1).1
  grind
 .simp at hv
theorem Ck(m:Oa P F)(p:sO P run){dk g xs nx k}(H:D8 F run dk g xs nx h k=.v r):∃v d h',k v d h'=.v r/\nx<=d/\Enters P g /\
  ∀μ B w us,HR μ B h.get w->Rs μ xs us->(∀o,nx<=o->o<d->μ o=none)->jz B w ->
   match dk with
   | false=>Calls P g ⟨us⟩ w (Jb μ B h.get w v nx d h'.get)
   | true=>∀u,CallsD P g ⟨us⟩ u w λe s w'=>s=u/\Jb μ B h.get w v nx d h'.get e w':=by
 unfold D8 at H;split at H
 .rename_i fn t;obtain⟨f,x⟩:=m.fn t;split at H
  .rename_i c a;obtain⟨env,b,y⟩:=Tc H;rw[dI]at b;obtain⟨v,d,h',q1,q2,q⟩:=p _ _ _ _ b;refine⟨v,d,h',q1,q2,⟨fn,f,x,by rw[a];rfl⟩,λμ B w us i z hn j=>?_⟩;obtain⟨l,a2⟩:=args_ER (n:=fn.ntmps) z y;cases dk with
   | false=>exact bT.calls f a (q trivial μ B w _ (.of g) i l a2 hn j ⟨rfl,rfl,trivial,.nil⟩)
   | true=>exact λu=>bT.callsD f a (q trivial μ B w _ ⟨g,[],none,true⟩ i l a2 hn j ⟨rfl,rfl,trivial,.nil⟩)
  .cases H
 .cases H
def callK_v(a:Oa P F)(b:Tb P E)(c:sO P run){g xs nx k}(H:SN F E run g xs nx h k=.v r):∃v d h',k v d h'=.v r/\nx<=d/\Enters P g /\
  ∀μ B w us,HR μ B h.get w->Rs μ xs us->(∀o,nx<=o->o<d->μ o=none)->jz B w->Calls P g ⟨us⟩ w (Jb μ B h.get w v nx d h'.get):=by
 unfold SN at H;split at H
 .rename_i x hx;obtain⟨e,f⟩:=b g x hx;simp_all
 .obtain⟨v,d,h',q1,q2,q,i⟩:=Ck a c H
  grind
def Oc{g:Nat}{vs args w}:(Deferred.ofValue (.func (.func g) #[] vs) args).run P w=.ok { target:=.fn (.func g) vs,args:=args } w:=by
 simp[Deferred.ofValue]
def U8(s:Oa P F)(t:Tb P E)(x:sO P run){g cs xs nx k f l ts}(n:o.op=.call ⟨.value f,l,ts⟩)(hl:Evs env l.toList xs)(y:ev env f=some (.f g cs))
  (z:SN F E run g (xs++cs) nx h k=.v r):∃v H h',k v H h'=.v r/\N8 P cx ds o env h.get nx v H h'.get:=by
 obtain⟨v,H,h',q1,q2,A,C⟩:=callK_v s t x z;refine⟨v,H,h',q1,q2,λμ B w tmps f' K ops i rest kk j D G p hn I N hk=>?_⟩;have q:=eT p y;generalize J:Act.eval ⟨tmps,[]⟩ f=u at q;cases q with
 | f _ L =>
  rename_i vs;have M:=Cg p hl;refine bT.call j D (f':=g) (args:=⟨l.toList.map (Act.eval ⟨tmps,[]⟩)++vs⟩) (w':=w) ?_ ((C μ B w _ G (M.append L) hn I).mono λe w' ⟨u,μ',a,b,c,d⟩=>⟨u,a,hk u μ' w' b c d⟩);obtain⟨d0,O,ty,pos,Q,gd⟩:=o;simp only at n;subst n;have m:l.map (Act.eval ⟨tmps,[]⟩)=⟨l.toList.map (Act.eval ⟨tmps,[]⟩)⟩:=by grind
  simp only[execOp,resolve,J,Sem.run_bind,Oc,Result.andThen_ok,invoke,ov A,m];simp
end calls
section ops
variable {P:uG}{T:Tr TI}{F:Tr Func}{E:ET}{run:Cx->FZ->(V->Nat->Tr Ob->X S1)->X S1}{r:S1}{env:Tr V}{h:Tr Ob}{cx:Cx}{ds:LQ Df}{o:Oper}
def Od{n}:∀{ps vs e k},Hk n ps vs e k=.v r->∃e',k e'=.v r/\vs.length=ps.length/\∀μ us tmps,Rs μ vs us->ER μ e tmps->n<=tmps.size ->
  ER μ e' ((ps.zip us).foldl (λt p=>t.setIfInBounds p.1 p.2) tmps)/\n<=((ps.zip us).foldl (λt p=>t.setIfInBounds p.1 p.2) tmps).size
 | [],[],e,k,h=>⟨e,h,rfl,λμ us tmps H a hn=>by simp_all⟩
 | p::ps,v::vs,e,k,h=>by
  unfold Hk at h;obtain⟨g,q1,q2⟩:=QY h;obtain⟨e',q,b,c⟩:=Od q1;refine⟨e',q,by simp[b],λμ us tmps H a hn=>?_⟩;cases H with
  | cons h1 h2 =>
   obtain⟨d,f⟩:=q2 μ tmps _ a hn h1;exact c μ _ _ h2 d f
 | [],_::_,_,_,h=>by cases h
 | _::_,[],_,_,h=>by cases h
def Hy{w b lp x}(h:w.heap[b]?=some (.loop lp)):(setObj b x).run P w=.ok () { w with heap:=w.heap.setIfInBounds b x }:=by
 simp only[setObj,Sem.run,h]
def U9{g args w}:(Deferred.ofValue (.func (.yield g) #[] #[]) args).run P w=.ok { target:=.fn (.yield g) #[],args:=args } w:=by
 simp[Deferred.ofValue]
def JZ{μ B lo n fn c b h h' w e ps a d pl lp st}{b':Bool}(k:HR μ B h w)(hx:h lo=some (.r b fn c e ps a d))(H:μ lo=some pl)(hl:w.heap[pl.b]?=some (.loop lp))
  (i:st=if b' then .ready else .busy) (l:∀j,h' j=if j=lo then some (.r b' fn c e ps a d)else h j) :
  HR μ B h' { w with heap:=w.heap.setIfInBounds pl.b (.loop { lp with state:=st }) }/\Ev μ h w μ h' { w with heap:=w.heap.setIfInBounds pl.b (.loop { lp with state:=st }) } n n:=by
 obtain⟨pl',f,m,g,o,y,q,s,t,u,v,p⟩:=k.ob lo _ hx;rw[H]at f;cases f;rw[hl]at g;cases g;have x:=(k.low lo _ pl hx rfl H).2;exact k.xn hx rfl H l (λcs e=>by cases e) (by simp) (λb z=>by grind) rfl rfl rfl ⟨{ lp with state:=st },by simp[x],o,i,q,s,t,u,v,p⟩
theorem QZ(Z:sO P run){lo fn n nx e ps a b xs}{k:V->Nat->Tr Ob->X S1}{f l ts}(I:o.op=.call ⟨.value f,l,ts⟩)(hl:Evs env l.toList xs)(hf:ev env f=some (.y lo))(hg:h.get lo=some (.r true fn n e ps a b))
  (hh:(Hk n ps xs e λe'=>run ⟨fn,some lo,n,false⟩ ⟨.k [.code a,.beginRound,.code b],e',nx,h,[]⟩ λ_ nx h=>match h.get lo with
   | some (.r false d n2 J g q b2)=>Tr.set 64 h lo (.r true d n2 J g q b2) λh=>k (cB true) nx h
   | _=>no 175)=.v r):∃v s h',k v s h'=.v r/\N8 P cx ds o env h.get nx v s h'.get:=by
 obtain⟨e',q1,q2,q3⟩:=Od hh;obtain⟨v,s,h1,x,q5,q6⟩:=Z _ _ _ _ q1;split at x
 .rename_i d n2 J g q b2 j;obtain⟨h2,q7,q8⟩:=lF x;refine⟨_,_,_,q7,q5,λμ B w tmps f' K ops i rest kk z hw L M hn hG hC hk=>?_⟩;have N:=eT M hf;generalize hu:Act.eval ⟨tmps,[]⟩ f=u at N;cases N with
  | y A =>
   rename_i pl;obtain⟨pl',O,lp,p2,p3,p4,p5,p6,Q,p8,p9,C⟩:=L.ob lo _ hg;rw[A]at O;cases O;have R:=Cg M hl;obtain⟨a1,q⟩:=q3 μ _ _ R C p3;have D:l.map (Act.eval ⟨tmps,[]⟩)=⟨l.toList.map (Act.eval ⟨tmps,[]⟩)⟩:=by grind
   have dE:¬((⟨l.toList.map (Act.eval ⟨tmps,[]⟩)⟩:uD uB).size≠lp.params.size):=λdz=>dz (by rw[Q];exact R.len.symm.trans q2);refine bT.round z hw (l:=pl.b) (f':=lp.fn) (tm:=(ps.zip (l.toList.map (Act.eval ⟨tmps,[]⟩))).foldl (λt p=>t.setIfInBounds p.1 p.2) lp.tmps) (assign:=lp.assign) (body:=lp.body) (w':=w) ?_ ?_
   .obtain⟨d0,o0,ty,pos,af,gd⟩:=o;simp only at I;subst I;have E:(getObj pl.b).run P w=.ok (.loop lp) w:=by simp[getObj,Sem.run,p2]
    simp only[execOp,resolve,hu,Sem.run_bind,U9,Result.andThen_ok,invoke,D,Instr.yield,Instr.getLoop,E,Sem.run_pure,zaa dE];rw[Q];simp_all
   .rw[p8,p9];have m:=q6 trivial μ B w _ ⟨lp.fn,[],some pl.b,false⟩ L a1 q hn hG ⟨p6,rfl,⟨pl,A,rfl⟩,.nil⟩;refine m.mono λen S ⟨u,μ',c1,c2,T,U⟩=>?_
    obtain⟨PA,W,H,F,r3,r4,r5,r6,r7,r8,r9,r10⟩:=T.ob lo _ j;have Y:=U.le lo pl A;rw[Y]at W;cases W;obtain⟨t1,t2⟩:=JZ (n:=s) T j Y F (st:=.ready) (b':=true) rfl q8;have E:(getObj pl.b).run P S=.ok (.loop H) S:=by simp[getObj,Sem.run,F]
    have G:({ H with state:=.ready,pending:=none }:Loop)={ H with state:=.ready }:=by rw[←r5]
    refine⟨_,?_,hk _ μ' _ (.c _) t1 (U.trans t2)⟩;simp only[Instr.endRound,Instr.getLoop,Sem.run_bind,E,Result.andThen_ok,Sem.run_pure,Option.isNone_none,zce,G,Hy F]
 .cases x
def actC_ca{s t x f l}(ha:Hj T s t x=.ca f l):False:=by
 unfold Hj at ha
 grind
def actB_ca{b l ts f m}(ha:Hi T b l ts=.ca f m):False:=by
 unfold Hi at ha
 grind
def act_ca{op f l}(ha:act T op=.ca f l):∃l':uD uH,∃ts,op=.call ⟨.value f,l',ts⟩/\l'.toList=l:=by
 unfold act at ha;split at ha
 case h_8=>exact(actC_ca ha).elim
 all_goals first
  | (cases ha;done)
  | skip
 .split at ha<;>cases ha
 .grind
 .grind
 .split at ha
  .exact(actB_ca ha).elim
  .simp_all
  grind
def opK_v(hT:qn P T)(c:Oa P F)(e:Tb P E)(b:sO P run){nx k}(H:opK F E run (act T o.op) env nx h k=.v r):∃v d h',k v d h'=.v r/\N8 P cx ds o env h.get nx v d h'.get:=by
 unfold opK at H;split at H
 .rename_i g ha;obtain⟨v,q1,q2⟩:=Yu hT ha H;exact⟨v,nx,h,q1,S8 q2⟩
 .rename_i g ha;obtain⟨v,q1,q2⟩:=LP hT ha H;exact⟨v,nx,h,q1,S9 q2⟩
 .rename_i g ha;obtain⟨v,ob,q1,q2⟩:=Yx hT ha H;obtain⟨h',q,i⟩:=lF q1;rw[dI]at q;exact⟨v,_,h',q,Ta q2 i⟩
 .rename_i g ha;obtain⟨v,d,h',q1,q2⟩:=act_ef hT ha H;exact⟨v,d,h',q1,does_ef q2⟩
 .rename_i f l ha;obtain⟨l',ts,a,K⟩:=act_ca ha;subst K;obtain⟨xs,q1,H⟩:=Ce H;obtain⟨m,q2,H⟩:=eZ H;unfold oCall at H;split at H
  .rw[Cd]at H;exact U8 c e b a q1 q2 H
  .split at H
   .rename_i j;exact QZ b a q1 q2 j H
   .cases H
  .cases H
 .cases H
 .cases H
end ops
section res
variable {P:uG}{T:Tr TI}{F:Tr Func}{E:ET}{run:Cx->FZ->(V->Nat->Tr Ob->X S1)->X S1}{r:S1}{env:Tr V}{h:Tr Ob}{cx:Cx}{ds:LQ Df}
theorem Oe tmps(t:Nat):Act.eval ⟨tmps,[]⟩ (.tmp t)=tmps.getD t Go.undef:=rfl
def Q0(hT:qn P T):∀{l k},o7 T env h l k=.v r->∃vs,k vs=.v r/\∀μ B w tmps,HR μ B h.get w->ER μ env tmps ->
  ∃us,Rs μ vs us/\(l.mapM (Abs.wO tmps)).run P w=.ok us w
 | [],k,H=>⟨[],H,λμ B w tmps e d=>⟨[],.nil,by simp⟩⟩
 | .tmp t::l,k,H=>by
  unfold o7 at H;obtain⟨v,q1,H⟩:=eZ H;obtain⟨vs,q2,q⟩:=Q0 hT H;refine⟨_,q2,λμ B w tmps e d=>?_⟩;obtain⟨us,f,k2⟩:=q μ B w tmps e d;refine⟨_,.cons (eT d q1) f,?_⟩;simp only[List.mapM_cons,Abs.wO,Sem.run_bind,Sem.run_pure,Result.andThen_ok,k2,Oe]
 | .cell a t::l,k,H=>by
  unfold o7 at H;have g:(lE env (.tmp a) λa=>NZ T h t a λv=>o7 T env h l λr=>k (v::r))=.v r:=H;obtain⟨v,m,q1⟩:=SV hT g;obtain⟨vs,q2,q⟩:=Q0 hT m;refine⟨_,q2,λμ B w tmps e d=>?_⟩;obtain⟨us,f,k2⟩:=q μ B w tmps e d;obtain⟨u,c,n⟩:=q1 μ B w tmps none 0 "" #[] none e d;refine⟨_,.cons n f,?_⟩;have i:((do loadVar t (←asAddr (tmps.getD a Go.undef))):Sem uB).run P w=.ok u w:=by
   simp only[execOp,Oe,Instr.loadAt]at c;generalize tmps.getD a Go.undef=z at c;cases z with
   | pointer p =>
    cases p with
    | some p =>
     simp only[Instr.sureAddr,asAddr,Sem.run_bind,Sem.run_pure,Result.andThen_ok]at c ⊢;cases hl:(loadVar t p).run P w with
     | ok x w'=>rw[hl]at c;simp_all
     | halt a b=>rw[hl]at c;cases c
    | none=>simp[Instr.sureAddr]at c
   | _=>simp[Instr.sureAddr]at c
  have j:(Abs.wO tmps (.cell a t)).run P w=.ok u w:=i;simp_all
theorem YE(hT:qn P T){fn nx}(c:(o7 T env h fn.results.toList λl=>X5 l λv=>.v (.fin v nx h))=.v r):∃v,r=.fin v nx h/\∀μ B w tmps,HR μ B h.get w->ER μ env tmps->∃u,R μ v u/\(results fn tmps).run P w=.ok u w:=by
 obtain⟨vs,q1,q2⟩:=Q0 hT c;have H:∀{tmps:uD uB} {us:List uB} {w:uC},(fn.results.toList.mapM (Abs.wO tmps)).run P w=.ok us w ->
   (results fn tmps).run P w=.ok (if h:(⟨us⟩:uD uB).size=1 then(⟨us⟩:uD uB)[0]else .tuple ⟨us⟩) w:=fun {tmps us w} e=>by
  have E:(fn.results.mapM (Abs.wO tmps)).run P w=.ok ⟨us⟩ w:=by
   rw[Array.mapM_eq_mapM_toList];simp_all
  have W:(results fn tmps)=(do let vs ←fn.results.mapM (Abs.wO tmps);pure (if h:vs.size=1 then vs[0]else .tuple vs)):=by
   unfold results;congr 1
  rw[W];simp_all
 unfold X5 at q1;split at q1
 .rename_i v;cases q1;refine⟨_,rfl,λμ B w tmps a b=>?_⟩;obtain⟨us,k,k2⟩:=q2 μ B w tmps a b;cases k with
  | cons h1 h2 =>
   cases h2;simp_all
 .rename_i d;cases q1;refine⟨_,rfl,λμ B w tmps a b=>?_⟩;obtain⟨us,k,k2⟩:=q2 μ B w tmps a b;refine⟨_,.t k,?_⟩;rw[H k2];rw[dif_neg];intro hl;have:=k.len;simp only[zbp]at hl
  match vs,this,d with
  | [v],_,d=>simp_all
  | [],this,_=>simp_all
  | _::_::_,this,_=>simp_all
end res
def Fwd(P:uG)(cx:Cx)(s:FZ):S1->Prop
 | .go h=>s.nx<=h.nx/\∀v d h',Goal P cx h v d h'->Goal P cx s v d h'
 | .fin v d h'=>Goal P cx s v d h'
def Ev.AO{μ μ' h h' w w' n H a}(e:Ev μ h w μ' h' w' n H)(hn:∀o,n<=o->o<a->μ o=none)(hle:n<=H):∀o,H<=o->o<a->μ' o=none:=λo h1 h2=>by
 cases b:μ' o with
 | none=>rfl
 | some pl =>
  have:=e.new o (hn o (by omega) h2) (by rw[b];simp);omega
def vd{μ B n h w v u}(hH:HR μ B h w)(H:R μ v u):Jb μ B h w v n n h (.returned u) w:=⟨u,μ,rfl,H,hH,.refl _ _ _ _⟩
def yd{P fn tmps R a}(H:∀e w,R e w->a e w):∀ds u w,Leaves P fn tmps R ds u w->Leaves P fn tmps a ds u w
 | [],.returning,w,⟨v,h1,h2⟩=>⟨v,h1,H _ _ h2⟩
 | [],.panicking chain,w,h=>H _ _ h
 | [],.run,w,h=>h.elim
 | d::ds,u,w,⟨hu,b,cap,f,args,h1,h2,h3⟩=>⟨hu,b,cap,f,args,h1,h2,h3.mono λe g w' h=>by
   cases e with
   | returned v=>exact yd H ds _ _ h
   | panicked c=>exact yd H ds _ _ h
   | outgrown=>simp_all⟩
section step
variable {P:uG}{T:Tr TI}{F:Tr Func}{E:ET}{run:Cx->FZ->(V->Nat->Tr Ob->X S1)->X S1}{r:S1}{env:Tr V}{h:Tr Ob}{cx:Cx}{ds:LQ Df}{nx:Nat}
def mf{k k'}(hs:∀f K tmps w,bT P f K k' tmps w->bT P f K k tmps w):Fwd P cx ⟨.k k,env,nx,h,ds⟩ (.go ⟨.k k',env,nx,h,ds⟩):=
 ⟨zag _,λv i h' ⟨g,H⟩=>⟨g,λ_ μ B w tmps f a b hn c d e=>hs f _ tmps w (H trivial μ B w tmps f a b hn c d e)⟩⟩
def YF{μ f}(h:CR μ cx [] f)(I:cx.ro=none):f=⟨cx.fn,[],none,cx.dk⟩:=by
 obtain⟨a,b,c,d⟩:=h;obtain⟨fn,ds,ro,dk⟩:=f;simp only at a b c d;subst a;subst b;cases d;rw[I]at c;cases ro with
 | none=>rfl
 | some _=>cases c
def Td(hT:qn P T)(p:Oa P F)(q:sO P run){fn}:∀{ds nx h},leave T F run fn.results.toList env ds nx h=.v r->∃v i h',r=.fin v i h'/\nx<=i /\
  ∀μ B w tmps H,HR μ B h.get w->ER μ env tmps->(∀o,nx<=o->o<i->μ o=none)->jz B w->DsR μ ds H->Leaves P fn tmps (Jb μ B h.get w v nx i h'.get) H .returning w
 | [],nx,h,f=>by
  unfold leave at f;obtain⟨v,q1,q2⟩:=YE hT f;refine⟨v,nx,h,q1,zag _,λμ B w tmps H j l hn n k=>?_⟩;cases k;obtain⟨u,s,t⟩:=q2 μ B w tmps j l;exact⟨u,t,vd j s⟩
 | .m _::_,_,_,f=>by cases f
 | .c g cs::ds,nx,h,f=>by
  unfold leave at f;obtain⟨I,x,h1,q1,q2,y,z⟩:=Ck p q f;obtain⟨v,i,h',A,C,D⟩:=Td hT p q q1;refine⟨v,i,h',A,zci q2 C,λμ B w tmps H j l hn n k=>?_⟩;cases k with
  | c E k =>
   rename_i vs m;refine⟨by simp,.func g,⟨vs⟩,g,⟨vs⟩,rfl,?_,?_⟩
   .simp only[invoke,ov y];simp
   .refine CallsD.mono (z μ B w _ j E (λo a b=>hn o a (by omega)) n .returning) ?_;intro e J w' ⟨hu,u,μ',a,b,c,d⟩;subst hu;subst a;have hl:=D μ' B w' tmps m c (l.mono d.le) (d.AO hn q2) (d.tS j n) (k.mono d.le);exact yd (λe w G=>G.N9 d) _ _ _ hl
def out_v(hT:qn P T)(K:Oa P F)(L:sO P run){fn}(H:P.funcs[cx.fn]?=some fn)(I:cx.ro=none){k}(hk:k=[]/\ds=[]∨∃k',k=.code .ret::k')(i:outK T F run cx fn.results.toList env nx h ds=.v r):Fwd P cx ⟨.k k,env,nx,h,ds⟩ r:=by
 unfold outK at i;split at i
 .obtain⟨v,rfl,q2⟩:=YE hT i;refine⟨zag _,λ_ μ B w tmps f j s hn t y l=>?_⟩;have t:=YF l I;subst t;obtain⟨u,p,q⟩:=q2 μ B w tmps j s;rcases hk with⟨rfl,_⟩|⟨k',rfl⟩
  .cases Q:cx.dk with
   | true=>exact bT.finDk H q (vd j p)
   | false=>exact bT.fin H q (vd j p)
  .cases Q:cx.dk with
   | true=>exact bT.retDk H q (vd j p)
   | false=>exact bT.ret H q (vd j p)
 .rename_i o;split at i
  .cases i
  .rename_i Q;split at i
   .rename_i A;obtain⟨h1,q1,q2⟩:=lF i;obtain⟨v,rfl,M⟩:=YE hT q1;refine⟨zag _,λ_ μ B w tmps f j s hn t y l=>?_⟩;obtain⟨a,b,c,d⟩:=l;obtain⟨N,O,ro,dk⟩:=f;simp only at a b c d;subst a;subst b;rw[I]at c;cases d with
    | m C R =>
     cases R;rename_i pl;obtain⟨pl',D,S⟩:=j.ob o _ A;rw[C]at D;cases D;have E:w.heap[pl.b]?=some (.deferred (some [])):=S;have ht:=j.xn (h':=h1.get) (n:=nx) (w':={ w with heap:=w.heap.setIfInBounds pl.b (.deferred none) }) (x':=.g) A rfl C q2 (λcs e=>by cases e) (by simp) (λb E=>by grind) rfl rfl rfl trivial;obtain⟨u,p,q⟩:=M μ B _ tmps ht.1 s;have U:(Instr.takeDeferred pl.b).run P w=.ok [] { w with heap:=w.heap.setIfInBounds pl.b (.deferred none) }:=by
      simp only[Instr.takeDeferred,getObj,setObj,Sem.run_bind,Sem.run,E,Result.andThen_ok,Sem.run_pure]
     cases ro with
     | some _=>cases c
     | none =>
      rw[Q];rcases hk with⟨_,hk⟩|⟨k',rfl⟩
      .cases hk
      .exact bT.retM H U q ⟨u,μ,rfl,p,ht.1,ht.2⟩
   .cases i
 .rename_i G J;split at i
  .cases i
  .rename_i Q;obtain⟨v,V,h',rfl,q1,q2⟩:=Td hT K L i;refine⟨q1,λ_ μ B w tmps f j s hn t y l=>?_⟩;have x:f.ro=none:=by
    have:=l.ro;rw[I]at this;cases z:f.ro with
    | none=>rfl
    | some _=>rw[z]at this;cases this
   have hl:=q2 μ B w tmps f.ds j s t y l.ds;rcases hk with⟨_,hk⟩|⟨k',rfl⟩
   .simp_all
   .exact bT.retD x (l.dk.trans Q) (by rw[l.fn];exact H) hl
end step
section step
variable {P:uG}{T:Tr TI}{F:Tr Func}{E:ET}{run:Cx->FZ->(V->Nat->Tr Ob->X S1)->X S1}{r:S1}{env:Tr V}{h:Tr Ob}{cx:Cx}{ds:LQ Df}{nx:Nat}
def Q1{pre rest}{o:Oper}:(List.range (pre++o::rest).length).drop ((pre++o::rest).length-(o::rest).length)=pre.length::(List.range (pre++o::rest).length).drop ((pre++o::rest).length-rest.length):=by
 have h1:(pre++o::rest).length-(o::rest).length=pre.length:=by simp
 have h2:(pre++o::rest).length-rest.length=pre.length+1:=by grind
 rw[h1,h2];rw[zdk (by simp)];simp
def opS_v(hT:qn P T)(y:Oa P F)(z:Tb P E)(A:sO P run){o l rest k}(H:opS T F E run cx o l rest k env nx h ds=.v r):Fwd P cx ⟨.o l (o::rest) k,env,nx,h,ds⟩ r:=by
 have Y:∀{pre:LQ Oper},l=pre++o::rest->(yc (.o l (o::rest) k)=.inRegion ⟨l⟩ (pre.length::(List.range l.length).drop (l.length-rest.length))::k)/\(⟨l⟩:uD Oper)[pre.length]?=some o/\CfOk (.o l rest k):=fun {pre} hl=>by
  subst hl;refine⟨?_,by simp,⟨pre++[o],by simp⟩⟩;show Item.inRegion _ _::k=_;rw[Q1]
 unfold opS at H;split at H
 .cases H
 .rename_i n;obtain⟨env',q1,q2⟩:=QY H;cases q1;refine⟨zag _,λv C h' ⟨g,p⟩=>⟨g,λ⟨pre,hl⟩ μ B w tmps f d c hn i j m=>?_⟩⟩;obtain⟨t1,t2,t3⟩:=Y hl;obtain⟨q,s⟩:=q2 μ tmps Go.undef c hn (.t .nil);show bT P f _ (yc (.o l (o::rest) k)) tmps w;rw[t1];exact bT.rW t2 (Cj n c rfl) (p t3 μ B w _ f d q s i j m)
 .rename_i n;split at H
  .cases H
  .obtain⟨M,D,h1,q1,q2⟩:=opK_v (cx:=cx) (ds:=ds) hT y z A H;obtain⟨env',G,I⟩:=QY q1;cases G;obtain⟨d1,d2⟩:=q2;refine⟨d1,λv C h' ⟨g,p⟩=>⟨zci d1 g,λ⟨pre,hl⟩ μ B w tmps f d c hn i j m=>?_⟩⟩;obtain⟨t1,t2,t3⟩:=Y hl;show bT P f _ (yc (.o l (o::rest) k)) tmps w;rw[t1];refine d2 μ B w tmps f _ _ _ _ k t2 (Cj n c rfl) d c (λo a b=>i o a (zaz b g)) j m λu μ' w' K x J=>?_
   obtain⟨q,s⟩:=I μ' tmps u (c.mono J.le) hn K;exact(p t3 μ' B w' _ f x q s (J.AO i d1) (J.tS d j) (m.mono J.le)).mono λe N L=>L.N9 J
def YH(R:Oa P F)(S:sO P run){g E}{ps:uD Nat}{a b k}(T:ev env g=some E)(H:QO F run cx E ps.toList a b k env nx h ds=.v r):Fwd P cx ⟨.k (.code (.rangeFunc g ps a b)::k),env,nx,h,ds⟩ r:=by
 unfold QO at H;split at H
 .rename_i it cs;split at H
  .split at H
   .rename_i I;split at H
    .rename_i Q;obtain⟨h1,G,U⟩:=lF H;rw[dI]at G;obtain⟨h2,b1,b2⟩:=lF G;rw[dI]at b1;obtain⟨v3,s,h3,c1,c2,V,W⟩:=Ck R S b1;split at c1
     .rename_i X n0 e0 Y a0 b0 i;obtain⟨h4,Z,d2⟩:=lF c1;cases Z;refine⟨by grind,λv du h' ⟨g1,g2⟩=>⟨by grind,λ_ μ B w tmps f t A hn J K hC=>?_⟩⟩;simp only at g1;have j:=YF hC I;rw[Q]at j;subst j;have L:=eT A T;generalize hu:Act.eval ⟨tmps,[]⟩ g=u at L;cases L with
      | f _ sZ =>
       rename_i vs;have C:=J nx (zag _) (by omega);obtain⟨m1,m2⟩:=SZ (x:=.d) (y:=.deferred (some [])) (ext:=0) (sz:=0) (w':=w.alloc (.deferred (some []))) t C U (λcs e=>by cases e) rfl rfl rfl rfl (heap_alloc_new w _);have l:=m2.AO J (zek _);have c:=l (nx+1) (zag _) (by omega);obtain⟨m3,m4⟩:=SZ (x:=.r true cx.fn cx.n env ps.toList a b) (y:=.loop { state:=.ready,pending:=none,fn:=cx.fn,tmps:=tmps,params:=ps,assign:=a,body:=b,defers:=w.heap.size }) (ext:=0) (sz:=0)
        (w':=(w.alloc (.deferred (some []))).alloc (.loop { state:=.ready,pending:=none,fn:=cx.fn,tmps:=tmps,params:=ps,assign:=a,body:=b,defers:=w.heap.size })) m1 c b2 (λcs e=>by cases e) rfl rfl rfl rfl
        ⟨_,heap_alloc_new _ _,hn,rfl,rfl,rfl,rfl,rfl,rfl,A.mono (m2.le.trans (Mp.Hq c))⟩
       have p:=m4.AO l (zek _);have dE:(w.alloc (.deferred (some []))).heap.size=w.heap.size+1:=Array.size_push _;have hle:=m2.le.trans m4.le;refine bT.rangeFunc (ps:=ps) hu V ?_;have Xj:=W _ B _ (.func (.yield (w.heap.size+1)) #[] #[]::vs) m3 (.cons (dE▸.y Mp.add_same) (sZ.mono hle)) (λo x y=>p o x (by omega)) ((m2.trans m4).tS t K);have Xk:(#[.func (.yield (w.heap.size+1)) #[] #[]]++⟨vs⟩:uD uB)=⟨.func (.yield (w.heap.size+1)) #[] #[]::vs⟩:=by simp_all
       rw[Xk];refine Calls.mono Xj λe q ⟨u2,μ3,z1,z2,M,z⟩=>⟨⟨u2,z1⟩,?_⟩
       have N:=z.le (nx+1) _ Mp.add_same;obtain⟨pl3,O,lp,D,r3,r4,r5,r6,r7,r8,r9,r10⟩:=M.ob (nx+1) _ i;rw[N]at O;cases O;rw[dE]at D;have ht:=M.xn (h':=h4.get) (n:=s) (w':={ q with heap:=q.heap.setIfInBounds (w.heap.size+1) (.loop { lp with state:=.exhausted }) }) (x':=.g) i rfl N d2 (λcs e=>by cases e) (by simp) (λb hb=>by rw[dE]at hb;grind) rfl rfl rfl trivial;refine⟨_,?_,(g2 trivial μ3 B _ tmps ⟨cx.fn,[{ target:=.collected w.heap.size,args:=#[] }],none,false⟩ ht.1 (A.mono (hle.trans (z.le.trans ht.2.le))) hn (ht.2.AO (z.AO p c2) (zag _)) (((m2.trans m4).trans (z.trans ht.2)).tS t K)
        ⟨rfl,Q.symm,by rw[I];trivial,.m ((m4.le.trans (z.le.trans ht.2.le)) nx _ Mp.add_same) .nil⟩).mono λe w hp=>hp.N9 ((m2.trans m4).trans (z.trans ht.2))⟩
       have gW:(lp.state==LoopState.busy)=false:=by rw[r4];rfl
       have lO:(getObj (w.heap.size+1)).run P q=.ok (.loop lp) q:=by simp[getObj,Sem.run,D]
       simp only[Instr.endLoop,Instr.getLoop,Sem.run_bind,lO,Result.andThen_ok,Sem.run_pure,gW,zay,zbq,Hy D,r5]
     .cases c1
    .cases H
   .cases H
  .cases H
 .cases H
end step
def mg(h W:Hf):Hf:=λo=>match h o with
 | some x=>some x
 | none=>W o
def Te{h W o x}(e:h o=some x):mg h W o=some x:=by unfold mg;rw[e]
def FM{h W o}(e:h o=none):mg h W o=W o:=by unfold mg;rw[e]
def frame{μ μ' B n I h h' W w w'}(k:HR μ B W w)(hs:∀o x,h o=some x->W o=some x)(k':HR μ' B h' w')(e:Ev μ h w μ' h' w' n I):
  HR μ' B (mg h' W) w'/\Ev μ W w μ' (mg h' W) w' n I:=by
 have E:∀o,h' o=none->h o=none:=λo p=>by
  cases M:h o with
  | none=>rfl
  | some x=>exact absurd p (e.Dw o (by rw[M];simp))
 have J:∀o x pl,h o=none->W o=some x->μ o=some pl->(live x=true∨pl.b<B)->¬Own μ h pl.b:=λo x pl p hx H hl ⟨o2,f,P,a,b,c,d⟩=>by
  have t:o2≠o:=λq=>by simp_all
  rcases hl with hl|hl
  .exact k.sep o2 o f x P pl t (hs _ _ a) hx b hl c H d
  .have:=(k.low o2 f P (hs _ _ a) b c).1;omega
 have K:∀o x pl,h o=none->W o=some x->μ o=some pl->live x=true∨pl.b<B->w'.heap[pl.b]?=w.heap[pl.b]?:=λo x pl p hx H hl=>by
  refine e.frame pl.b ?_ (J o x pl p hx H hl);rcases hl with hl|hl
  .exact(k.low o x pl hx hl H).2
  .exact zaz hl k.size
 have m:∀o x,mg h' W o=some x->h' o=some x∨(h' o=none/\W o=some x):=λo x hx=>by
  unfold mg at hx
  grind
 have i:∀o x pl,W o=some x->μ' o=some pl->μ o=some pl:=λo x pl hx H=>by
  obtain⟨q,h1,_⟩:=k.ob o x hx;have:=e.le o q h1;rw[H]at this;simp_all
 refine⟨⟨k'.size,λo x hx=>?_,λo x pl hx hl H=>?_,λo cs pl hx H=>?_,λo o2 x f pl P t hx r hl s H j=>?_⟩,e.le,e.new,e.os,e.tape,e.output,e.size,λb A hn=>e.frame b A λ⟨o,x,pl,C,u,v,y⟩=>hn ⟨o,x,pl,hs _ _ C,u,v,y⟩,λb A ⟨o,x,pl,C,u,v,y⟩=>?_,e.nn,λo p=>?_⟩
 .rcases m o x hx with h1|⟨h1,h2⟩
  .exact k'.ob o x h1
  .obtain⟨pl,z,L⟩:=k.ob o x h2;refine⟨pl,e.le _ _ z,?_⟩;cases hl:live x with
   | true=>exact L.mono e.le (K o x pl (E o h1) h2 z (.inl hl))
   | false =>
    cases x with
    | g=>trivial
    | k cs=>exact L.mono e.le (K o _ pl (E o h1) h2 z (.inr (k.Wg o cs pl h2 z)))
    | _=>cases hl
 .rcases m o x hx with h1|⟨h1,h2⟩
  .exact k'.low o x pl h1 hl H
  .have:=k.low o x pl h2 hl (i o x pl h2 H)
   grind
 .rcases m o _ hx with h1|⟨h1,h2⟩
  .exact k'.Wg o cs pl h1 H
  .exact k.Wg o cs pl h2 (i o _ pl h2 H)
 .have D:∀(o o2:Nat) (x f:Ob) (pl P:Pl),h' o=some x->h' o2=none->W o2=some f->live x=true->live f=true->μ' o=some pl->μ' o2=some P->pl.b≠P.b:=λo o2 x f pl P h1 h2 h3 hl s H j F=>by
   have l:=i o2 f P h3 j;have N:=(k.low o2 f P h3 s l).2;exact J o2 f P (E o2 h2) h3 l (.inl s) (e.fresh P.b N ⟨o,x,pl,h1,hl,H,F⟩)
  rcases m o x hx with h1|⟨h1,h2⟩
  .rcases m o2 f r with h3|⟨h3,h4⟩
   .exact k'.sep o o2 x f pl P t h1 h3 hl s H j
   grind
  .rcases m o2 f r with h3|⟨h3,h4⟩
   .grind
   .exact k.sep o o2 x f pl P t h2 h4 hl s (i o x pl h2 H) (i o2 f P h4 j)
 .rcases m o x C with h1|⟨h1,h2⟩
  .obtain⟨O,Q,G,c1,R,S,T⟩:=e.fresh b A ⟨o,x,pl,h1,u,v,y⟩;exact⟨O,Q,G,hs _ _ c1,R,S,T⟩
  .exact⟨o,x,pl,h2,u,i o x pl h2 v,y⟩
 .unfold mg
  grind
def Ev.join{μ1 μ2 μ3 h1 h2 h3 w g i a b c d n H}(p:Ev μ1 h1 w μ2 h2 g a b)(q:Ev μ2 h2 g μ3 h3 i c d)(l:n<=a)(m:b<=H)(r:n<=c)(s:d<=H)(hn:n<=H):Ev μ1 h1 w μ3 h3 i n H:=by
 refine⟨p.le.trans q.le,λo e k=>?_,q.os.trans p.os,q.tape.trans p.tape,q.output.trans p.output,zci p.size q.size,λx hx hn=>?_,λx hx f=>?_,hn,λo h=>q.Dw o (p.Dw o h)⟩
 .cases j:μ2 o with
  | none=>have:=q.new o j k;omega
  | some pl=>have:=p.new o e (by rw[j];simp);omega
 .rw[q.frame x (zaz hx p.size) λf=>hn (p.fresh x hx f),p.frame x hx hn]
 .exact p.fresh x hx (q.fresh x (zaz hx p.size) f)
def Hz(P:uG)(cx:Cx)(ds:LQ Df)(l:LQ Oper)(o:Oper)(env:Tr V)(h:Hf)(nx:Nat)(v:V)(d:Nat)(h':Hf):=
 nx<=d/\∀μ B w tmps (f) (K) (i) (rest) (k),l[i]?=some o ->
  HR μ B h w->ER μ env tmps->(∀o,nx<=o->o<d->μ o=none)->jz B w->CR μ cx ds f ->
  (∀u μ' w',R μ' v u->HR μ' B h' w'->Ev μ h w μ' h' w' nx d->bT P f K (.inRegion ⟨l⟩ rest::k) (Act.put ⟨tmps,[]⟩ o.dst u).tmps w')->bT P f K (.inRegion ⟨l⟩ (i::rest)::k) tmps w
def wA{P cx ds l o env h h' nx d v}(hw:D9 l env o.guard=some true)(H:N8 P cx ds o env h nx v d h'):Hz P cx ds l o env h nx v d h':=
 ⟨H.1,λμ B w tmps f K i rest k g b a hn c e hk=>H.2 μ B w tmps f K ⟨l⟩ i rest k (by simp_all) (Cj hw a rfl) b a hn c e hk⟩
def Va{P cx ds l o env h nx}(hw:D9 l env o.guard=some false):Hz P cx ds l o env h nx undef nx h:=
 ⟨zag _,λμ B w tmps f K i rest k b H a hn c d hk=>bT.rW (by simp_all) (Cj hw a rfl) (hk Go.undef μ w (.t .nil) H (.refl _ _ _ _))⟩
def HR.sub{μ:Mp}{B:Nat}{h W:Hf}{w:uC}(k:HR μ B W w)(hs:∀o x,h o=some x->W o=some x):HR μ B h w:=
 ⟨k.size,λo x H=>k.ob o x (hs o x H),λo x pl H=>k.low o x pl (hs o x H),λo cs pl H=>k.Wg o cs pl (hs _ _ H),λo o' x x' pl pl' d h1 h2=>k.sep o o' x x' pl pl' d (hs _ _ h1) (hs _ _ h2)⟩
section gen
variable {P:uG}{cx:Cx}{ds:LQ Df}{l:LQ Oper}{V0:Nat->V}{EN:Nat->Tr V}{N:Nat->Nat}{W:(Nat->Bool)->Hf}{env0:Tr V}
def wB(X:Nat->Bool)(i:Nat):Nat->Bool:=λj=>if j=i then true else X j
def HopAt(P:uG)(cx:Cx)(ds:LQ Df)(l:LQ Oper)(V0:Nat->V)(EN:Nat->Tr V)(N:Nat->Nat)(W:(Nat->Bool)->Hf)(i:Nat)(o:Oper)(X:Nat->Bool):Prop:=
 ∃h h',Hz P cx ds l o (EN i) h (N i) (V0 i) (N (i+1)) h'/\(∀a x,h a=some x->W X a=some x) /\
  ((∀a,N i<=a->a<N (i+1)->W X a=none)->(∀a,h a≠none->h' a≠none)->∀a,mg h' (W X) a=W (wB X i) a)
def AQ(h:∀i,i<l.length->N i<=N (i+1)):∀{i j:Nat},i<=j->j<=l.length->N i<=N j:=fun {i j} h1 h2=>by
 induction j with
 | zero =>
  have:i=0:=by omega
  simp_all
 | succ j H =>
  grind
def Tf(l:LQ Oper)(V0:Nat->V)(env0:Tr V)(X:Nat->Bool)(μ:Mp)(tmps:uD uB):Prop:=
 ∀s,(∀j,j<l.length->X j=true->bW l j=some s->∃u,tmps[s]?=some u/\R μ (V0 j) u)/\((∀j,j<l.length->X j=true->bW l j≠some s)->∀v,env0.get s=some v->∃u,tmps[s]?=some u/\R μ v u)
def Vb{B:Nat}{μ0:Mp}{h0:Hf}{w0:uC}{f:Ctx}{K:Ending->uC->Prop}{k:LQ Item}
  (hC1:∀i j t,i<l.length->j<l.length->i≠j->bW l i=some t->bW l j≠some t)
  (hC2:∀(i:Nat) o,i<l.length->l[i]?=some o->∀t∈xr l o,∀j,j<l.length->j≠i->bW l j=some t->(j<i/\((cn l []).getD i 0).testBit j=true)∨(i<j/\((cn l []).getD j 0).testBit i=true))
  (qZ:∀(i:Nat) o,l[i]?=some o->∀e∈o.after,Region.binds .any e=true->e.on<i)
  (hEN:∀(i:Nat) o t v,l[i]?=some o->(EN i).get t=some v->t∈xr l o/\((∃j,j<i/\bW l j=some t/\V0 j=v)∨((∀j,j<i->bW l j≠some t)/\env0.get t=some v)))
  (O:∀(i t:Nat),bW l i=some t->t<cx.n) (Q:∀i,i<l.length->N i<=N (i+1))
  (hW:∀X X',(∀j,j<l.length->X j=X' j)->W X=W X')
  (qp:∀(i:Nat) o X,l[i]?=some o->X i=false->(∀j,((cn l []).getD i 0).testBit j=true->X j=true)->(∀c j,c<l.length->X c=true->((cn l []).getD c 0).testBit j=true->X j=true)->HopAt P cx ds l V0 EN N W i o X)
  (R:∀μ w tmps,HR μ B (W λ_=>true) w->Ev μ0 h0 w0 μ (W λ_=>true) w (N 0) (N l.length)->cx.n<=tmps.size->Tf l V0 env0 (λ_=>true) μ tmps->bT P f K k tmps w) :
  ∀(Bz H t:Nat) (listed:uD Bool) (μ:Mp) (w:uC) (tmps:uD uB),listed.size=l.length->tW l listed->(((List.range l.length).filter λi=>!listed.getD i true).length=Bz)->Bz<=H ->
   HR μ B (W λj=>listed.getD j false) w->Ev μ0 h0 w0 μ (W λj=>listed.getD j false) w (N 0) (N l.length)->(∀i,i<l.length->listed.getD i false=false->∀o,N i<=o->o<N (i+1)->μ o=none)->cx.n<=tmps.size->jz B w->CR μ cx ds f ->
   Tf l V0 env0 (λj=>listed.getD j false) μ tmps->bT P f K (.inRegion ⟨l⟩ (Region.linearise.go .any ⟨l⟩ H t listed [])::k) tmps w:=by
 have wM:∀listed:uD Bool,((List.range (⟨l⟩:uD Oper).size).filter λi=>!listed.getD i true && (((⟨l⟩:uD Oper)[i]?).map (·.after.all λe=>!Region.binds .any e || listed.getD e.on false)).getD false)=Region.ready .any ⟨l⟩ listed:=λ_=>rfl
 intro Bz
 induction Bz with
 | zero =>
  intro H t listed μ w tmps hs jF Gi Gj hH Ju z hn hG hC E;have jb:∀i,i<l.length->listed.getD i true=true:=by
   simp_all
  have Gk:∀i,i<l.length->listed.getD i false=true:=λi hi=>by
   have:=jb i hi;have bS:i<listed.size:=by omega
   simp_all
  have PW:Region.ready .any ⟨l⟩ listed=[]:=List.eq_nil_iff_forall_not_mem.2 λi hi=>by
   grind
  have hgo:Region.linearise.go .any ⟨l⟩ H t listed []=[]:=by
   cases H with
   | zero=>rfl
   | succ H=>simp only[Region.linearise.go,wM,PW];rfl
  rw[hgo];have hWe:(W λj=>listed.getD j false)=W λ_=>true:=hW _ _ Gk
  rw[hWe]at hH Ju;refine bT.Dd (R μ w tmps hH Ju hn λs=>⟨λj d _ hd=>(E s).1 j d (Gk j d) hd,λEJ v hv=>(E s).2 (λj d _=>EJ j d rfl) v hv⟩)
 | succ Bz ih =>
  intro H t listed μ w tmps hs jF Gi Gj hH Ju z hn hG hC E;obtain⟨H,rfl⟩:∃n,H=n+1:=⟨H-1,by omega⟩;have hex:∃i,i<l.length/\listed.getD i true=false:=by
   have:(List.range l.length).filter (λi=>!listed.getD i true)≠[]:=λh=>by rw[h]at Gi;grind
   obtain⟨i,hi⟩:=List.exists_mem_of_ne_nil _ this;rw[zcx,List.mem_range]at hi
   grind
  have S:∀i,i<l.length->listed.getD i false=listed.getD i true:=λi hi=>by
   have bS:i<listed.size:=by omega
   simp_all
  have dz:Region.ready .any ⟨l⟩ listed≠[]:=by
   have IQ:∀n i,i<=n->i<l.length->listed.getD i true=false->∃i,i<l.length/\listed.getD i true=false/\∀j,j<i->listed.getD j true=true:=by
    intro n
    induction n with
    | zero=>grind
    | succ n ihn =>
     grind
   obtain⟨i0,h0,h1⟩:=hex;obtain⟨i,r,RW,mH⟩:=IQ i0 i0 (zag _) h0 h1;have:i∈Region.ready .any ⟨l⟩ listed:=by
    rw[mem_ready];refine⟨RW,l[i],by simp[r],λe g A=>?_⟩;have bS:=qZ i l[i] (zaf r) e g A;rw[S _ (by omega)]
    grind
   grind
  simp only[Region.linearise.go,wM];have T:0<(Region.ready .any ⟨l⟩ listed).length:=zcn.2 dz;have xq:=zdq t T;generalize hi:(Region.ready .any ⟨l⟩ listed)[t % (Region.ready .any ⟨l⟩ listed).length]=i;have wN:(Region.ready .any ⟨l⟩ listed)[t % (Region.ready .any ⟨l⟩ listed).length]?=some i:=by rw[zaf xq,hi]
  rw[wN];simp only[];rw[linearise_go_acc];have Wz:i∈Region.ready .any ⟨l⟩ listed:=zav wN;obtain⟨RW,o,ho,jb⟩:=mem_ready.1 Wz;have C:l[i]?=some o:=by grind
  have r:=(zad.1 C).1;have sg:=pr jF C (λe g A=>jb e g A);have hgm:=sf jF l [] (by simp) (by simp);have F:listed.getD i false=false:=(S i r).trans RW;have U:∀c j,c<l.length->listed.getD c false=true->((cn l []).getD c 0).testBit j=true->listed.getD j false=true:=λc j _ q d=>by
   rw[zbm]at d;cases G:(cn l [])[c]? with
   | none=>rw[G]at d;simp at d
   | some m=>rw[G]at d;exact hgm c m G q j d
  obtain⟨h,h',hd,HA,hmg⟩:=qp i o (λj=>listed.getD j false) C F sg U;have hER:ER μ (EN i) tmps:=λt v hv=>by
   obtain⟨U5,h1|⟨h1,h2⟩⟩:=hEN i o t v C hv
   .obtain⟨j,d,I,rfl⟩:=h1;rcases hC2 i o r C t U5 j (by omega) (by omega) I with⟨_,h3⟩|⟨h3,_⟩
    .exact(E t).1 j (by omega) (sg j h3) I
    .omega
   .refine(E t).2 (λj d q I=>?_) v h2
    grind
  refine hd.2 μ B w tmps f K i _ k C (hH.sub HA) hER (z i r F) hG hC λu μ' w' hu hH' Y=>?_
  obtain⟨V,p⟩:=frame hH HA hH' Y;have hWn:∀a,N i<=a->a<N (i+1)->W (λj=>listed.getD j false) a=none:=λa h1 h2=>by
   cases hq:W (λj=>listed.getD j false) a with
   | none=>rfl
   | some x =>
    obtain⟨pl,p1,_⟩:=hH.ob a x hq;rw[z i r F a h1 h2]at p1;cases p1
  have J:∀j,(listed.setIfInBounds i true).getD j false=wB (λj=>listed.getD j false) i j:=λj=>by
   unfold wB;by_cases g:j=i
   .subst g;rw[zab rfl];simp[zba,show j<listed.size by omega]
   .rw[zaa g];exact getD_set_ne false (zcq g)
  have Z:mg h' (W λj=>listed.getD j false)=W (λj=>(listed.setIfInBounds i true).getD j false):=by
   rw[show(λj=>(listed.setIfInBounds i true).getD j false)=wB (λj=>listed.getD j false) i from funext J];exact funext (hmg hWn Y.Dw)
  rw[Z]at V p;have hpn:cx.n<=(Act.put ⟨tmps,[]⟩ o.dst u).tmps.size:=by
   cases hdo:o.dst with
   | none=>exact hn
   | some s=>simpa[Act.put] using hn
  have Jx:((List.range l.length).filter λj=>!(listed.setIfInBounds i true).getD j true).length=Bz:=by
   have J:∀j,(listed.setIfInBounds i true).getD j true=(listed.getD j true || decide (j=i)):=by
    intro j;by_cases M:j=i
    .subst M;simp[zba,hs,r]
    .rw[getD_set_ne true (zcq M)];simp[M]
   have PY:((List.range l.length).filter λj=>!(listed.setIfInBounds i true).getD j true)=((List.range l.length).filter λj=>!listed.getD j true).filter λj=>!decide (j=i):=by
    rw[zfj];refine zdx λj _=>?_
    rw[J j];cases listed.getD j true<;>simp
   rw[PY];have hnd:((List.range l.length).filter λj=>!listed.getD j true).Nodup:=List.nodup_range.filter _;have s6:i∈(List.range l.length).filter λj=>!listed.getD j true:=by rw[zcx,List.mem_range];grind
   have Aq:∀(L:LQ Nat),L.Nodup->i∈L->(L.filter λj=>!decide (j=i)).length+1=L.length:=by
    intro L
    induction L with
    | nil=>grind
    | cons a L ihL =>
     intro hn G;rw[zbz]at hn;by_cases ha:a=i
     .subst ha;have:(L.filter λj=>!decide (j=a))=L:=by
       rw[zdc];intro b A;have:b≠a:=λe=>hn.1 (e▸A)
       simp[this]
      rw[zby];simp[this]
     .have EE:i∈L:=by
       rcases zao.1 G with h|h
       .exact absurd h.symm ha
       .exact h
      rw[zby];simp only[ha,decide_false,zfn,zce,zap];rw[ihL hn.2 EE]
   have:=Aq _ hnd s6;omega
  refine ih H _ _ μ' w' _ (by simpa using hs) ?_ ?_ (by omega) V (Ju.join p (zag _) (zag _) (AQ Q (zdo _) (by omega)) (AQ Q (by omega) (zag _)) (AQ Q (zdo _) (zag _))) ?_ hpn (p.tS hH hG) (hC.mono p.le) ?_
  .intro c o1 IE Un e g A;by_cases hii:c=i
   .subst hii;rw[C]at IE;cases IE;exact getD_set_true (jb e g A)
   .rw[getD_set_ne false (zcq hii)]at Un;exact getD_set_true (jF c o1 IE Un e g A)
  .omega
  .intro c hi' q a h1 h2;rw[J]at q;unfold wB at q;split at q
   .cases q
   .rename_i mJ;have G:=z c hi' q a h1 h2;cases hq:μ' a with
    | none=>rfl
    | some pl =>
     have:=Y.new a G (by rw[hq];simp);rcases Nat.lt_or_ge c i with bS|hge
     .have:=AQ Q (show c+1<=i by omega) (by omega);omega
     .have:=AQ Q (show i+1<=c by omega) (by omega);omega
  .intro s;have D:∀s,(Act.put ⟨tmps,[]⟩ o.dst u).tmps[s]?=if bW l i=some s then some u else tmps[s]?:=λs=>by
    have hda:bW l i=o.dst:=by simp[bW,C]
    rw[hda];cases hdo:o.dst with
    | none=>simp[Act.put]
    | some s' =>
     have bS:=O i s' (hda.trans hdo);show(tmps.setIfInBounds s' u)[s]?=_;by_cases g:s'=s
     .subst g;rw[zab rfl,Array.getElem?_setIfInBounds_self_of_lt (by omega)]
     .rw[zaa (by simpa using g),Array.getElem?_setIfInBounds_ne g]
   refine⟨λj d q I=>?_,λEJ v hv=>?_⟩
   .rw[D];by_cases M:j=i
    .subst M;rw[zab I];exact⟨u,rfl,hu⟩
    .have hX2:listed.getD j false=true:=by
      have:=q;simp only[J,wB,zaa M]at this;exact this
     rw[zaa (hC1 j i s d r M I)];obtain⟨y,y1,y2⟩:=(E s).1 j d hX2 I;exact⟨y,y1,y2.mono Y.le⟩
   .rw[D];have hni:bW l i≠some s:=EJ i r (by simp only[J,wB];simp);rw[zaa hni];obtain⟨y,y1,y2⟩:=(E s).2 (λj d q=>EJ j d (by simp only[J,wB];split<;>simp_all)) v hv;exact⟨y,y1,y2.mono Y.le⟩
end gen
def Tg(m j):tb m j=m.testBit j:=by
 rw[Nat.testBit_eq_decide_div_mod_eq];unfold tb;by_cases h:m / 2 ^ j % 2=1
 .simp only[h,decide_true];show Nat.beq (m / 2 ^ j % 2) 1=true;rw[h];rfl
 .simp only[h,decide_false];show Nat.beq (m / 2 ^ j % 2) 1=false;cases H:Nat.beq (m / 2 ^ j % 2) 1 with
  | false=>rfl
  | true=>simp_all
def Of:∀{a b},XU a b=true->a=b
 | [],[],_=>rfl
 | x::a,y::b,h=>by
  unfold XU at h;split at h
  .rename_i H;rw[zai H,Of h]
  .cases h
 | [],_::_,h=>by cases h
 | _::_,[],h=>by cases h
def YJ{a b}(h:X6 a b=true):a=b:=by
 unfold X6 at h
 grind
def YK{a b}(h:X7 a b=true):a=b:=by
 unfold X7 at h;split at h
 .rfl
 .rw[zai h]
 .cases h
mutual
def Og:∀{a b:V},pg a b=true->a=b
 | .c a,b,h=>by cases b<;>simp only[pg,zay]at h;rw[YJ h]
 | .s a,b,h=>by cases b<;>simp only[pg,zay]at h;rw[Of h]
 | .p a b,c,h=>by
  cases c<;>simp only[pg,zay,zam]at h;rw[zai h.1,zai h.2]
 | .l a b c d,e,h=>by
  cases e<;>simp only[pg,zay,zam]at h;rw[zai h.1.1.1,zai h.1.1.2,zai h.1.2,YK h.2]
 | .z,b,h=>by cases b<;>simp only[pg,zay]at h;rfl
 | .m a,b,h=>by cases b<;>simp only[pg,zay]at h;rw[zai h]
 | .y a,b,h=>by cases b<;>simp only[pg,zay]at h;rw[zai h]
 | .f a b,c,h=>by
  cases c<;>simp only[pg,zay,zam]at h;rw[zai h.1,yW h.2]
 | .a a,b,h=>by cases b<;>simp only[pg,zay]at h;rw[yW h]
 | .t a,b,h=>by cases b<;>simp only[pg,zay]at h;rw[yW h]
def yW:∀{a b:LQ V},xZ a b=true->a=b
 | [],[],_=>rfl
 | x::a,y::b,h=>by
  simp only[xZ,zam]at h;rw[Og h.1,yW h.2]
 | [],_::_,h=>by simp[xZ]at h
 | _::_,[],h=>by simp[xZ]at h
end
structure Oh where
 V0:Nat->V
 EN:Nat->Tr V
 N:Nat->Nat
 tx:Nat->LX (Tr Ob)
 al:Nat->LX (Nat×Ob)
def one(a:Nat)(ob:Ob):Hf:=λj=>if j=a then some ob else none
def AL(D:Oh)(X:Nat->Bool):Nat->Hf
 | 0=>λ_=>none
 | n+1=>match X n with
  | true=>match D.al n with
   | some (a,ob)=>mg (one a ob) (AL D X n)
   | none=>AL D X n
  | false=>AL D X n
def EK(D:Oh)(h0:Tr Ob)(X:Nat->Bool)
 | 0=>h0
 | n+1=>match X n with
  | true=>match D.tx n with
   | some H=>H
   | none=>EK D h0 X n
  | false=>EK D h0 X n
def Wd(D:Oh)(h0:Tr Ob)(n:Nat)(X:Nat->Bool):= mg (EK D h0 X n).get (AL D X n)
def kr(D:Oh)
 | 0=>[]
 | n+1=>match D.tx n with
  | some H=>(n,H)::kr D n
  | none=>kr D n
def Jc(D:Oh)
 | 0=>[]
 | n+1=>match D.al n with
  | some (a,ob)=>(n,a,ob)::Jc D n
  | none=>Jc D n
def AR:Nat->Bool:=λ_=>true
def Cl{D h0}:∀n,QN h0 (kr D n)=EK D h0 AR n
 | 0=>rfl
 | n+1=>by
  unfold kr EK;cases h:D.tx n with
  | some H=>simp only[QN,AR]
  | none=>simp only[AR];exact Cl n
def Q2(D:Oh)(n:Nat):= ∀i j a ob P,i<n->j<n->D.al i=some (a,ob)->D.al j=some (a,P)->i=j
def ye{D X}:∀{n},Q2 D n->∀{a ob},AL D X n a=some ob↔∃j,j<n/\X j=true/\D.al j=some (a,ob)
 | 0,hu,a,ob=>by simp[AL]
 | n+1,hu,a,ob=>by
  have A:Q2 D n:=λi j a ob P hi d=>hu i j a ob P (by omega) (by omega)
  have e:=ye (X:=X) A (a:=a) (ob:=ob);have old:AL D X n a=some ob->∃j,j<n+1/\X j=true/\D.al j=some (a,ob):=λh=>by
   grind
  unfold AL;cases f:X n with
  | false =>
   grind
  | true =>
   simp only[];cases c:D.al n with
   | none =>
    grind
   | some p =>
    obtain⟨b,P⟩:=p;simp only[];by_cases H:a=b
    .subst H;have:mg (one a P) (AL D X n) a=some P:=Te (by simp[one]);rw[this];refine⟨λh=>?_,λ⟨j,h1,h2,h3⟩=>?_⟩
     .grind
     .have:=hu j n a ob P h1 (by omega) h3 c;simp_all
    .rw[FM (by simp[one,H])]
     grind
def mk(l:LQ Oper)(j:Nat):= (cn l []).getD j 0
inductive YL (P:uG) (cx:Cx) (ds:List Df) (l:List Oper) (D:Oh) (h0:Tr Ob) (n j:Nat) (o:Oper):Prop
 | quiet (e1:D.tx j=none) (e2:D.al j=none) (e3:D.N (j+1)=D.N j) (hd:∀hf,Hz P cx ds l o (D.EN j) hf (D.N j) (D.V0 j) (D.N j) hf)
 | alloc (ob:Ob) (e1:D.tx j=none) (e2:D.al j=some (D.N j,ob)) (e3:D.N (j+1)=D.N j+1) (hd:∀hf h',(∀a,h' a=if a=D.N j then some ob else hf a)->Hz P cx ds l o (D.EN j) hf (D.N j) (D.V0 j) (D.N j+1) h')
 | effect (H hp:Tr Ob) (e1:D.tx j=some H) (e2:D.al j=none) (hd:Hz P cx ds l o (D.EN j) hp.get (D.N j) (D.V0 j) (D.N (j+1)) H.get) (hc:∀q,q<j->D.tx q≠none->(mk l j).testBit q=true)
   (hs:∀a,hp.get a=mg (EK D h0 AR j).get (AL D (λq=>(mk l j).testBit q) j) a)
 | reader (e1:D.tx j=none) (e2:D.al j=none) (e3:D.N (j+1)=D.N j) (hd:∀p,p<=n->(∀q,q<p->D.tx q≠none->(mk l q).testBit j=false)->(∀q,p<=q->q<n->D.tx q≠none->(mk l j).testBit q=false) ->
   ∃H':Tr Ob,Hz P cx ds l o (D.EN j) H'.get (D.N j) (D.V0 j) (D.N j) H'.get/\∀a,H'.get a=mg (EK D h0 AR p).get (AL D (λq=>(mk l j).testBit q) j) a)
section facts
variable {P:uG}{cx:Cx}{ds:LQ Df}{l:LQ Oper}{D:Oh}{h0:Tr Ob}{n:Nat}
def YL.mono{j o}(h:YL P cx ds l D h0 n j o):D.N j<=D.N (j+1):=by
 cases h with
 | quiet e b c a=>omega
 | alloc ob e b c a=>omega
 | effect H d e b a f hs=>exact a.1
 | reader e b c a=>omega
theorem FN{X n}(h:D.tx n=none):EK D h0 X (n+1)=EK D h0 X n:=by
 have:EK D h0 X (n+1)=(match X n with|true=>(match D.tx n with|some H=>H|none=>EK D h0 X n)|false=>EK D h0 X n):=rfl;rw[this,h];cases X n<;>rfl
def Th{X X'}:∀{n},(∀j,j<n->D.tx j≠none->X j=X' j)->EK D h0 X n=EK D h0 X' n
 | 0,h=>rfl
 | n+1,h=>by
  have i:=Th (n:=n) (X:=X) (X':=X') λj H=>h j (by omega)
  unfold EK
  grind
def Cm{X i H}(hi:D.tx i=some H)(c:X i=true):∀{n},i<n->(∀q,i<q->q<n->D.tx q≠none->X q=false)->EK D h0 X n=H
 | 0,h,_=>by omega
 | n+1,h,d=>by
  unfold EK;by_cases e:i=n
  .simp_all
  .have f:=Cm hi c (n:=n) (by omega) λq a b=>d q a (by omega)
   grind
theorem YM{X}:∀{n},(∀j q,j<n->q<j->D.tx j≠none->D.tx q≠none->X j=true->X q=true) ->
  ∃p,p<=n/\EK D h0 X n=EK D h0 AR p/\(∀q,q<p->D.tx q≠none->X q=true)/\∀q,p<=q->q<n->D.tx q≠none->X q=false
 | 0,h=>⟨0,zag _,rfl,λq f=>by omega,λq a b=>by omega⟩
 | n+1,h=>by
  obtain⟨p,l,m,o,r⟩:=YM (n:=n) (X:=X) λj q a b c d e=>h j q (by omega) b c d e
  cases f:D.tx n with
  | none =>
   have g:EK D h0 X (n+1)=EK D h0 X n:=by
    have:EK D h0 X (n+1)=(match X n with|true=>(match D.tx n with|some H=>H|none=>EK D h0 X n)|false=>EK D h0 X n):=rfl;rw[this,f];cases X n<;>rfl
   grind
  | some H =>
   cases i:X n with
   | true =>
    refine⟨n+1,zag _,?_,λq a c=>?_,λq a b=>by omega⟩
    .have g:EK D h0 X (n+1)=H:=Cm f i (by omega) λq a b=>by omega
     have k:EK D h0 AR (n+1)=H:=Cm f rfl (by omega) λq a b=>by omega
     rw[g,k]
    grind
   | false =>
    have g:EK D h0 X (n+1)=EK D h0 X n:=by
     have:EK D h0 X (n+1)=(match X n with|true=>(match D.tx n with|some H=>H|none=>EK D h0 X n)|false=>EK D h0 X n):=rfl;rw[this,i]
    grind
def LR{X X'}(hu:Q2 D n){m a ob}(hm:m<=n)(h:AL D X m a=some ob)(H:∀j,j<m->X j=true->X' j=true):AL D X' n a=some ob:=by
 obtain⟨j,h1,h2,h3⟩:=(ye (λi j a ob P hi b=>hu i j a ob P (by omega) (by omega))).1 h;exact(ye hu).2 ⟨j,by omega,H j h1 h2,h3⟩
def LS{X X'}(hu:Q2 D n)(h:∀j,j<n->D.al j≠none->X j=X' j)(a):AL D X n a=AL D X' n a:=by
 have key:∀{X X':Nat->Bool},(∀j,j<n->D.al j≠none->X j=X' j)->∀ob,AL D X n a=some ob->AL D X' n a=some ob:=λh ob H=>by
  obtain⟨j,h1,h2,h3⟩:=(ye hu).1 H;exact(ye hu).2 ⟨j,h1,by rw[←h j h1 (by rw[h3];simp)];exact h2,h3⟩
 cases h1:AL D X n a with
 | some ob=>grind
 | none =>
  cases h2:AL D X' n a with
  | none=>rfl
  | some ob=>have:=key (λj a b=>(h j a b).symm) ob h2;rw[h1]at this;cases this
def hop_v(J:∀j o,l[j]?=some o->YL P cx ds l D h0 l.length j o)(hu:Q2 D l.length) i o X(K:l[i]?=some o)(S:X i=false)(hm:∀j,(mk l i).testBit j=true->X j=true)
  (T:∀y j,y<l.length->X y=true->(mk l y).testBit j=true->X j=true):HopAt P cx ds l D.V0 D.EN D.N (Wd D h0 l.length) i o X:=by
 have L:=(zad.1 K).1;have U:∀j q,j<l.length->q<j->D.tx j≠none->D.tx q≠none->(mk l j).testBit q=true:=λj q g M h1 h2=>by
  cases J j l[j] (zaf g)with
  | quiet m=>simp_all
  | alloc ob m=>simp_all
  | effect H z m t r V hs=>simp_all
  | reader m=>simp_all
 obtain⟨p,W,O,p3,p4⟩:=YM (D:=D) (h0:=h0) (X:=X) (n:=l.length) λj q g M h1 h2 Y=>T j q g Y (U j q g M h1 h2)
 have k:∀j,j≠i->wB X i j=X j:=λj g=>by unfold wB;rw[zaa g]
 have s:wB X i i=true:=by unfold wB;rw[zab rfl]
 have f:D.tx i=none->D.al i=none->∀a,Wd D h0 l.length (wB X i) a=Wd D h0 l.length X a:=λh1 h2 a=>by
  unfold Wd mg;rw[Th (X:=wB X i) (X':=X) λj g A=>k j λe=>by simp_all,LS hu (X:=wB X i) (X':=X) (λj g A=>k j λe=>by simp_all) a]
 cases J i o K with
 | quiet m t u r =>
  refine⟨λ_=>none,λ_=>none,by rw[u];exact r _,λa x h=>by(cases h),λ_ _ a=>?_⟩
  rw[f m t];exact FM rfl
 | alloc ob m t u r =>
  refine⟨λ_=>none,one (D.N i) ob,by rw[u];exact r _ _ λa=>rfl,λa x h=>by(cases h),λB _ a=>?_⟩
  have Q:EK D h0 (wB X i) l.length=EK D h0 X l.length:=Th λj g A=>k j λe=>by simp_all
  by_cases ha:a=D.N i
  .subst ha;rw[Te (x:=ob) (by simp[one])];have C:=B (D.N i) (zag _) (by omega);unfold Wd mg at C;split at C
   .cases C
   .rename_i hn;unfold Wd;rw[Q,FM hn];exact((ye hu).2 ⟨i,L,s,t⟩).symm
  .rw[FM (by simp[one,ha])];unfold Wd mg;rw[Q];have:AL D X l.length a=AL D (wB X i) l.length a:=by
    cases h1:AL D X l.length a with
    | some Z =>
     exact(LR hu (zag _) h1 λj _ g=>by grind).symm
    | none =>
     cases h2:AL D (wB X i) l.length a with
     | none=>rfl
     | some Z =>
      obtain⟨j,j1,R,j3⟩:=(ye hu).1 h2;have kP:j≠i:=λe=>by simp_all
      rw[k j kP]at R;have:=(ye hu).2 ⟨j,j1,R,j3⟩;rw[h1]at this;cases this
   rw[this]
 | effect H z m t r V hs =>
  have v:EK D h0 X l.length=EK D h0 AR i:=by
   rw[O];have hpi:p<=i:=by
    grind
   clear hs r;have:∀d,p+d<=i->EK D h0 AR (p+d)=EK D h0 AR p:=by
    intro d
    induction d with
    | zero=>grind
    | succ d ih =>
     intro r;rw[←ih (by omega)];have hn:D.tx (p+d)=none:=by
      grind
     exact FN hn
   have:=this (i-p) (by omega);rw[show p+(i-p)=i by omega]at this;simp_all
  refine⟨z.get,H.get,r,λa x h=>?_,λ_ hk a=>?_⟩
  .rw[hs a]at h;unfold Wd;rw[v];unfold mg at h ⊢;split at h
   .omega
   .exact LR hu (by omega) h λj g E=>hm j E
  .have F:EK D h0 (wB X i) l.length=H:=Cm m s L λq a b c=>by
    rw[k q (by omega)]
    grind
   unfold Wd;rw[F];unfold mg;cases hHa:H.get a with
   | some x=>rfl
   | none =>
    have w:z.get a=none:=by
     grind
    have G:(EK D h0 X l.length).get a=none:=by
     rw[v];rw[hs a]at w;unfold mg at w
     grind
    simp only[G];exact LS hu (λj g A=>(k j λe=>by simp_all).symm) a
 | reader m t u r =>
  obtain⟨I,d1,d2⟩:=r p W (λq a b=>by
    grind) (λq a b c=>by
    grind)
  have HA:∀a x,I.get a=some x->Wd D h0 l.length X a=some x:=λa x h=>by
   rw[d2 a]at h;unfold Wd;rw[O];unfold mg at h ⊢;split at h
   .omega
   .exact LR hu (by omega) h λj g E=>hm j E
  refine⟨I.get,I.get,by rw[u];exact d1,HA,λ_ _ a=>?_⟩
  rw[f m t];unfold mg
  grind
end facts
end Go.CI
namespace Go.CI
open Go.RowKit
open Go.Abs
def mk_lt{l}(q:∀i o,l[i]?=some o->∀e∈o.after,Region.binds .any e=true->e.on<i){i j o}(c:l[i]?=some o)(h:(mk l i).testBit j=true):j<i:=by
 have H:∀k,(Array.replicate i true).getD k false=decide (k<i):=λk=>by
  rw[zba,Array.getElem?_replicate];by_cases hk:k<i<;>simp[hk]
 have:=pr (ops:=l) (listed:=Array.replicate i true) (λd o' h1 h2 e a b=>by
  rw[H]at h2 ⊢;have:=q d o' h1 e a b
  grind) c (λe a b=>by rw[H];simp_all) j h
 rw[H]at this;simp_all
theorem YN{D X q}(H:∀j,X j=true->j<q):∀{n},q<=n->AL D X n=AL D X q
 | 0,h=>by rw[show q=0 by omega]
 | n+1,h=>by
  by_cases e:q=n+1
  .rw[e]
  .rw[←YN H (n:=n) (by omega)];have:AL D X (n+1)=(match X n with|true=>(match D.al n with|some (a,ob)=>mg (one a ob) (AL D X n)|none=>AL D X n)|false=>AL D X n):=rfl;rw[this]
   grind
section pass
variable {P:uG}{T:Tr TI}{F:Tr Func}{E:ET}{run:Cx->FZ->(V->Nat->Tr Ob->X S1)->X S1}{r:S1}{cx:Cx}{ds:LQ Df}{l:LQ Oper}{h0:Tr Ob}
def LU:∀{ts env t k},N1 env ts t k=.v r->∃b,k b=.v r/\∀s v,b.get s=some v->s∈ts/\env.get s=some v∨t.get s=some v
 | [],env,t,k,H=>⟨t,H,λs v h=>.inr h⟩
 | a::ts,env,t,k,H=>by
  unfold N1 at H;split at H
  .rename_i x hx;obtain⟨d,q1,q2⟩:=lF H;obtain⟨b,q,c⟩:=LU q1;refine⟨b,q,λs v h=>?_⟩;rcases c s v h with⟨h1,h2⟩|h1
   .simp_all
   .rw[q2 s]at h1
    grind
  .obtain⟨b,q,c⟩:=LU H
   grind
def LV{m}:∀{al h k},zo m al h k=.v r->∃h',k h'=.v r
 | [],h,k,H=>⟨h,H⟩
 | (j,a,ob)::al,h,k,H=>by
  unfold zo at H;split at H
  .split at H
   .exact LV H
   .obtain⟨h1,q1,_⟩:=lF H;exact LV q1
  .exact LV H
def YO(T:Tr TI)(l:List Oper)(i:Nat):Rd->Prop
 | .mk q m _ g _=>q<i/\m=mk l q/\∃o,l[q]?=some o/\act T o.op=.rd g
theorem rd_k(hT:qn P T){op g}(ha:act T op=.rd g){e v m al H Z n}
  (a:(zo m al H λh=>g e h λu=>match pg v u with|true=>Z|false=>no n)=.v r):Z=.v r:=by
 obtain⟨h',q1⟩:=LV a;obtain⟨u,q2,_⟩:=LP (P:=P) hT ha q1;split at q2
 .exact q2
 .cases q2
theorem HB(hT:qn P T){i f al H k}:∀{y},(∀rd∈y,YO T l i rd)->Hl f al H k y=.v r->k=.v r/\∀q m e g v,Rd.mk q m e g v∈y->tb f q=false ->
  ∃Z,(zo (tb m) al H λh=>g e h λu=>match pg v u with|true=>Z|false=>no 201)=.v r
 | [],hw,c=>⟨c,λq m e g v h=>by cases h⟩
 | .mk j m e g v::y,hw,c=>by
  have d:∀rd∈y,YO T l i rd:=λrd w=>hw rd (zak _ w)
  unfold Hl at c;cases ht:tb f j with
  | true =>
   rw[ht]at c;obtain⟨a,b⟩:=HB hT d c
   grind
  | false =>
   rw[ht]at c;simp only at c;obtain⟨_,_,o,t,ha⟩:=hw (.mk j m e g v) (by simp);have hk:=rd_k (P:=P) hT ha c;obtain⟨a,b⟩:=HB hT d hk;refine⟨a,λq n e' g' v' p s=>?_⟩;rcases zao.1 p with h|h
   .cases h;exact⟨_,c⟩
   .exact b q n e' g' v' h s
theorem Ti(hT:qn P T){op m al g}(ha:act T op=.rd g){e v k}:∀{kQ},SO m al g e v h0 k kQ=.v r->k=.v r /\
  ∀pre s,kQ=pre++s->pre≠[]->(∀x∈pre,tb m x.1=false)->∃Z,(zo (tb m) al (QN h0 s) λh=>g e h λu=>match pg v u with|true=>Z|false=>no 202)=.v r
 | [],c=>⟨c,λpre s h1 h2=>by cases pre<;>first|exact absurd rfl h2|cases h1⟩
 | (i,H)::l',c=>by
  unfold SO at c;cases ht:tb m i with
  | true =>
   rw[ht]at c;refine⟨c,λpre s h1 h2 h3=>?_⟩;cases pre with
   | nil=>simp_all
   | cons x pre =>
    grind
  | false =>
   rw[ht]at c;simp only at c;have hk:=rd_k (P:=P) hT ha c;obtain⟨a,b⟩:=Ti hT ha hk;refine⟨a,λpre s h1 h2 h3=>?_⟩;cases pre with
   | nil=>simp_all
   | cons x pre =>
    cases h1;by_cases d:pre=[]
    .subst d;exact⟨_,c⟩
    .exact b pre s rfl d λx hx=>h3 x (zak _ hx)
theorem Cn{D}:∀{n p},p<=n->∃pre,kr D n=pre++kr D p/\(∀x∈pre,p<=x.1/\x.1<n/\D.tx x.1≠none)/\(pre=[]->EK D h0 AR n=EK D h0 AR p)
 | 0,p,h=>⟨[],by rw[show p=0 by omega];rfl,λx hx=>by(cases hx),λ_=>by rw[show p=0 by omega]⟩
 | n+1,p,h=>by
  by_cases e:p=n+1
  .simp_all
  .obtain⟨pre,h1,h2,h3⟩:=Cn (n:=n) (p:=p) (by omega);have b:kr D (n+1)=(match D.tx n with|some H=>(n,H)::kr D n|none=>kr D n):=rfl;cases a:D.tx n with
   | none =>
    rw[b,a];refine⟨pre,h1,λx hx=>?_,λc=>(FN a).trans (h3 c)⟩
    grind
   | some H =>
    rw[b,a]
    grind
theorem HC{D m}:∀{n},LF m (kr D n)=true->∀q,q<n->D.tx q≠none->m.testBit q=true
 | 0,h,q,b=>by omega
 | n+1,h,q,b=>λa=>by
  have c:kr D (n+1)=(match D.tx n with|some H=>(n,H)::kr D n|none=>kr D n):=rfl;rw[c]at h;cases hn:D.tx n with
  | none =>
   rw[hn]at h;have:q≠n:=λe=>by simp_all
   exact HC h q (by omega) a
  | some H =>
   rw[hn]at h;simp only at h;unfold LF at h;split at h
   .rename_i ht;by_cases e:q=n
    .subst e;rw[←Tg];exact ht
    .exact HC h q (by omega) a
   .cases h
end pass
section pass
variable {P:uG}{T:Tr TI}{F:Tr Func}{E:ET}{run:Cx->FZ->(V->Nat->Tr Ob->X S1)->X S1}{r:S1}{cx:Cx}{ds:LQ Df}{l:LQ Oper}{h0:Tr Ob}
def Win(l:LQ Oper)(D:Oh)(n q p:Nat):= p<=n/\(∀h,h<p->D.tx h≠none->(mk l h).testBit q=false)/\∀h,p<=h->h<n->D.tx h≠none->(mk l q).testBit h=false
def RdAt(P:uG)(l:List Oper)(h0:Tr Ob)(D:Oh)(p:Nat):Rd->Prop
 | .mk q _ e _ v=>∀o,l[q]?=some o->∃H:Tr Ob,Wh P e H o.op v/\∀a,H.get a=mg (EK D h0 AR p).get (AL D (λj=>(mk l q).testBit j) q) a
def noOf:Rd->Nat
 | .mk q _ _ _ _=>q
def Rds(P:uG)(l:LQ Oper)(h0:Tr Ob)(D:Oh)(n:Nat)(y:LQ Rd):= ∀rd∈y,∀p,Win l D n (noOf rd) p->RdAt P l h0 D p rd
structure Pre(l:LQ Oper)(D:Oh)(i nx:Nat)(kQ:LQ (Nat×Tr Ob))(al:LQ (Nat×Nat×Ob)):Prop where
 n:D.N i=nx
 kQ:kr D i=kQ
 al:Jc D i=al
 uniq:Q2 D i
 lt:∀j a ob,j<i->D.al j=some (a,ob)->a<nx
def Ag(D T:Oh)(i:Nat):= ∀j,i<=j->D.V0 j=T.V0 j/\D.EN j=T.EN j/\D.tx j=T.tx j/\D.al j=T.al j/\D.N (j+1)=T.N (j+1)
structure Res(P:uG)(cx:Cx)(ds:LQ Df)(l:LQ Oper)(h0:Tr Ob)(D:Oh)(i:Nat)(env env':Tr V)(du:Nat)(h':Tr Ob)(yU:LQ Rd):Prop where
 ok:∀j o,i<=j->l[j]?=some o->YL P cx ds l D h0 l.length j o
 rd:Rds P l h0 D l.length yU
 n:D.N l.length=du
 get:∀a,h'.get a=Wd D h0 l.length AR a
 uniq:Q2 D l.length
 ev:∀t v,env'.get t=some v->(∃j,i<=j/\bW l j=some t/\D.V0 j=v)∨((∀j,i<=j->bW l j≠some t)/\env.get t=some v)
 en:∀(j:Nat) o t v,i<=j->l[j]?=some o->(D.EN j).get t=some v->t∈xr l o/\((∃q,i<=q/\q<j/\bW l q=some t/\D.V0 q=v)∨((∀q,i<=q->q<j->bW l q≠some t)/\env.get t=some v))
 dst:∀(j t:Nat),i<=j->bW l j=some t->t<cx.n
def Claim(P:uG)(cx:Cx)(ds:LQ Df)(l:LQ Oper)(h0:Tr Ob)(i:Nat)(env:Tr V)(nx:Nat)(kQ:LQ (Nat×Tr Ob))(al:LQ (Nat×Nat×Ob))(y:LQ Rd)(k:Tr V->Nat->Tr Ob->X S1)(r:S1):=
 ∃(T:Oh) (env':Tr V) (d:Nat) (h':Tr Ob),k env' d h'=.v r/\nx<=d/\∀D,Ag D T i->Pre l D i nx kQ al->Rds P l h0 D i y->Res P cx ds l h0 D i env env' d h' y
def yf{n d v env k}(H:xc n d v env k=.v r):∃env',k env'=.v r/\(∀t,d=some t->t<n)/\∀t x,env'.get t=some x->d=some t/\v=x∨d≠some t/\env.get t=some x:=by
 unfold xc at H;split at H
 .exact⟨env,H,λt h=>(by cases h),λt x h=>.inr ⟨by simp,h⟩⟩
 .rename_i d;split at H
  .rename_i a;have a:=zae a;obtain⟨env',q1,q2⟩:=lF H;refine⟨env',q1,λt h=>(by grind),λt x hx=>?_⟩;rw[q2 t]at hx
   grind
  .cases H
theorem Co{i nx c o}{env Q e:Tr V}{v kQ Y al f u b k ef ao}
  (w:l[i]?=some o) (hE:∀t x,e.get t=some x->t∈xr l o/\env.get t=some x) (hd:∀t,o.dst=some t->t<cx.n) (hp:∀t x,Q.get t=some x->o.dst=some t/\v=x∨o.dst≠some t/\env.get t=some x)
  (K:nx<=c) (L:Y=match ef with|some H=>(i,H)::kQ|none=>kQ) (ha:f=match ao with|some (a,ob)=>(i,a,ob)::al|none=>al) (m:∀a ob,ao=some (a,ob)->a=nx/\nx<c)
  (M:∀rd∈u,rd∈b)
  (p:∀D,Pre l D i nx kQ al->D.V0 i=v->D.EN i=e->D.tx i=ef->D.al i=ao->D.N (i+1)=c->Rds P l h0 D i u->Rds P l h0 D (i+1) b/\(Rds P l h0 D l.length b->YL P cx ds l D h0 l.length i o))
  (O:Claim P cx ds l h0 (i+1) Q c Y f b k r):Claim P cx ds l h0 i env nx kQ al u k r:=by
 obtain⟨T,env',S,h',q1,q2,W⟩:=O;have jw:=(zad.1 w).1;have X:bW l i=o.dst:=by simp[bW,w]
 refine⟨⟨λj=>if j=i then v else T.V0 j,λj=>if j=i then e else T.EN j,λj=>if j=i+1 then c else T.N j,λj=>if j=i then ef else T.tx j,λj=>if j=i then ao else T.al j⟩,env',S,h',q1,by omega,λD F g Z=>?_⟩;obtain⟨G,I,z,q,A⟩:=F i (zag _);simp only[zce]at G I z q A;obtain⟨g1,g2⟩:=p D g G I z q A Z;have B:Ag D T (i+1):=λj s=>by
  have:=F j (by omega)
  grind
 have C:Pre l D (i+1) c Y f:=by
  refine⟨A,?_,?_,λx y a ob E hx hy h1 h2=>?_,λj a ob s h=>?_⟩
  .have U:kr D (i+1)=(match D.tx i with|some H=>(i,H)::kr D i|none=>kr D i):=rfl;rw[U,z,g.kQ,L]
  .have U:Jc D (i+1)=(match D.al i with|some (a,ob)=>(i,a,ob)::Jc D i|none=>Jc D i):=rfl;rw[U,q,g.al,ha]<;>rfl
  .by_cases ex:x=i
   .by_cases J:y=i
    .omega
    .subst ex;rw[q]at h1;have:=g.lt y a E (by omega) h2;have:=(m a ob h1).1;omega
   .by_cases J:y=i
    .subst J;rw[q]at h2;have:=g.lt x a ob (by omega) h1;have:=(m a E h2).1;omega
    .exact g.uniq x y a ob E (by omega) (by omega) h1 h2
  .by_cases e:j=i
   .simp_all
   .have:=g.lt j a ob (by omega) h;omega
 have R:=W D B C g1;refine⟨λj o' s d=>?_,λrd wM=>R.rd rd (M rd wM),R.n,R.get,R.uniq,λt x hx=>?_,λj o' t x s d hx=>?_,λj t s si=>?_⟩
 .by_cases e:j=i
  .subst e;rw[w]at d;cases d;exact g2 R.rd
  .exact R.ok j o' (by omega) d
 .rcases R.ev t x hx with⟨j,b1,b2,b3⟩|⟨b1,b2⟩
  .grind
  grind
 .by_cases e:j=i
  .grind
  .obtain⟨c1,c2|⟨c2,c3⟩⟩:=R.en j o' t x (by omega) d hx
   .grind
   grind
 .by_cases e:j=i
  .simp_all
  .exact R.dst j t (by omega) si
def Cp{D i y}(he:D.tx i=none)(h:Rds P l h0 D i y):Rds P l h0 D (i+1) y:=λrd w p ⟨j,b,c⟩=>by
 by_cases e:p=i+1
 .subst e;have:=h rd w i ⟨zag _,λH n hn=>b H (by omega) hn,λH h1 h2=>by omega⟩;cases rd with
  | mk q m e g v =>
   intro o d;obtain⟨f,k,k2⟩:=this o d;exact⟨f,k,λa=>by rw[FN he];exact k2 a⟩
 .exact h rd w p ⟨by omega,b,λH h1 h2=>c H h1 (by omega)⟩
end pass
def ALl(m:Nat->Bool):List (Nat×Nat×Ob)->Hf
 | []=>λ_=>none
 | (j,a,ob)::l=>match m j with
  | true=>mg (one a ob) (ALl m l)
  | false=>ALl m l
theorem Vc{D m}:∀n,AL D m n=ALl m (Jc D n)
 | 0=>rfl
 | n+1=>by
  have h1:AL D m (n+1)=(match m n with|true=>(match D.al n with|some (a,ob)=>mg (one a ob) (AL D m n)|none=>AL D m n)|false=>AL D m n):=rfl;have h2:Jc D (n+1)=(match D.al n with|some (a,ob)=>(n,a,ob)::Jc D n|none=>Jc D n):=rfl;rw[h1,h2,Vc n];cases D.al n with
  | none=>cases m n<;>rfl
  | some p=>cases h:m n<;>simp[ALl,h]
def AS{r m}:∀{al h k},zo m al h k=.v r->∃h',k h'=.v r/\∀a,h'.get a=mg h.get (ALl m al) a
 | [],h,k,H=>⟨h,H,λa=>by
   unfold mg;cases h.get a<;>rfl⟩
 | (j,b,ob)::al,h,k,H=>by
  unfold zo at H;unfold ALl;cases d:m j with
  | false =>
   rw[d]at H;exact AS H
  | true =>
   rw[d]at H;simp only at H ⊢;cases c:h.get b with
   | some x =>
    rw[c]at H;obtain⟨h',q1,q2⟩:=AS H;refine⟨h',q1,λa=>?_⟩;rw[q2 a];unfold mg;cases f:h.get a with
    | some y=>rfl
    | none =>
     have p:¬a=b:=λe=>by simp_all
     simp[one,p]
   | none =>
    rw[c]at H;simp only at H;obtain⟨h1,s1,s2⟩:=lF H;obtain⟨h',q1,q2⟩:=AS s1;refine⟨h',q1,λa=>?_⟩;rw[q2 a];unfold mg;rw[s2 a];by_cases p:a=b
    .subst p;simp[one,c]
    .rw[zaa p];cases h.get a with
     | some y=>rfl
     | none=>simp[one,p]
section pass
variable {P:uG}{T:Tr TI}{F:Tr Func}{E:ET}{run:Cx->FZ->(V->Nat->Tr Ob->X S1)->X S1}{r:S1}{cx:Cx}{ds:LQ Df}{l:LQ Oper}{h0:Tr Ob}
theorem rd_l(hT:qn P T){op g}(ha:act T op=.rd g){e v m al H Z n}
  (c:(zo m al H λh=>g e h λu=>match pg v u with|true=>Z|false=>no n)=.v r):∃b:Tr Ob,Wh P e b op v/\∀a,b.get a=mg H.get (ALl m al) a:=by
 obtain⟨h',q1,q⟩:=AS c;obtain⟨u,q2,d⟩:=LP (P:=P) hT ha q1;split at q2
 .rename_i hs;rw[Og hs]
  grind
 .cases q2
def LW(m):tb m=λj=>m.testBit j:=funext λj=>Tg m j
def J0(hT:qn P T)(hF:Oa P F)(hE:Tb P E)(bK:sO P run)(f:∀i o,l[i]?=some o->∀e∈o.after,Region.binds .any e=true->e.on<i):
  ∀{os} {ms} {i} {env} {nx} {kQ} {al} {U} {k},
   drK T F E run cx l h0 os ms i env nx kQ al U k=.v r->os=l.drop i->ms=(cn l []).drop i->i<=l.length->(∀rd∈U,YO T l i rd)->Claim P cx ds l h0 i env nx kQ al U k r
 | [],ms,i,env,nx,kQ,al,U,k,C,h1,h2,h3,h4=>by
  have hi:i=l.length:=by
   have:=zaq List.length h1
   grind
  subst hi;unfold drK at C;obtain⟨h',q1,q2⟩:=AS C;refine⟨⟨λ_=>undef,λ_=>.e,λ_=>nx,λ_=>none,λ_=>none⟩,env,nx,h',q1,zag _,λD hA H u=>?_⟩;have EJ:∀(j t:Nat),l.length<=j->bW l j≠some t:=λj t A h=>by
   unfold bW at h;rw[zbu A]at h;cases h
  refine⟨λj o A V=>?_,u,H.n,λa=>?_,H.uniq,λt v hv=>.inr ⟨λj A=>EJ j t A,hv⟩,λj o t v A V=>?_,λj t A h=>absurd h (EJ j t A)⟩
  .rw[zbu A]at V;cases V
  .rw[q2 a,←H.al,←Vc,←H.kQ,Cl];rfl
  simp_all
 | o::os,[],i,env,nx,kQ,al,U,k,C,h1,h2,h3,h4=>by
  unfold drK at C;cases C
 | o::os,m::ms,i,env,nx,kQ,al,U,k,C,h1,h2,h3,h4=>by
  have G:l[i]?=some o:=by
   have:(l.drop i)[0]?=some o:=by rw[←h1];rfl
   simp_all
  have jw:=(zad.1 G).1;have Dg:os=l.drop (i+1):=by
   have:(l.drop i).tail=os:=by rw[←h1];rfl
   rw[←this,List.tail_drop]
  have IL:ms=(cn l []).drop (i+1):=by
   have:((cn l []).drop i).tail=ms:=by rw[←h2];rfl
   rw[←this,List.tail_drop]
  have W:m=mk l i:=by
   have:((cn l []).drop i)[0]?=some m:=by rw[←h2];rfl
   unfold mk;rw[zbm];have h:(cn l [])[i]?=some m:=by simp_all
   rw[h];rfl
  have I:∀rd∈U,YO T l (i+1) rd:=λrd B=>by
   have:=h4 rd B;cases rd with
   | mk q m e g v=>exact⟨Nat.lt_succ_of_lt this.1,this.2⟩
  have Qd:∀{D:Oh} {q:Nat} {o':Oper},l[q]?=some o'->q<=i->AL D (λj=>(mk l q).testBit j) i=AL D (λj=>(mk l q).testBit j) q:=λhq hle=>YN (λj A=>mk_lt f hq A) hle
  unfold drK at C;obtain⟨e,s,q0'⟩:=LU C;have w:∀t x,e.get t=some x->t∈xr l o/\env.get t=some x:=λt x hx=>by
   simp_all
  clear C;split at s
  .cases s
  .rename_i hw;obtain⟨Q3,d,J,K⟩:=yf s;rw[dI]at d;have L:=J0 hT hF hE bK f d Dg IL jw I;exact Co (ef:=none) (ao:=none) G w J K (zag _) rfl rfl (λa ob h=>by cases h) (λrd h=>h) (λD H M N c O Q u=>⟨Cp c u,λ_=>.quiet c O (by rw[Q,H.n]) λhf=>by rw[M,N];exact Va hw⟩) L
  .rename_i hw;split at s
   .rename_i g ha;obtain⟨v,q1,hs⟩:=Yu (P:=P) hT ha s;obtain⟨Q3,d,J,K⟩:=yf q1;rw[dI]at d;have L:=J0 hT hF hE bK f d Dg IL jw I;exact Co (ef:=none) (ao:=none) G w J K (zag _) rfl rfl (λa ob h=>by cases h) (λrd h=>h) (λD H M N c O Q u=>⟨Cp c u,λ_=>.quiet c O (by rw[Q,H.n]) λhf=>by rw[M,N];exact wA hw (S8 hs)⟩) L
   .rename_i g ha;obtain⟨v,ob,q1,hs⟩:=Yx (P:=P) hT ha s;obtain⟨Q3,d,J,K⟩:=yf q1;rw[dI,dI]at d;have L:=J0 hT hF hE bK f d Dg IL jw I;exact Co (ef:=none) (ao:=some (nx,ob)) G w J K (zek _) rfl rfl (λa ob h=>by simp_all) (λrd h=>h) (λD H M N c O Q u=>⟨Cp c u,λ_=>.alloc ob c (by rw[O,H.n]) (by rw[Q,H.n]) λhf h' RP=>by
     rw[M,N,H.n];rw[H.n]at RP;exact wA hw (Ta hs RP)⟩) L
   .rename_i g ha;obtain⟨hr,q1,X⟩:=AS s;obtain⟨v,q2,hs⟩:=LP (P:=P) hT ha q1;obtain⟨q3,Y⟩:=Ti (P:=P) hT ha q2;obtain⟨Q3,d,J,K⟩:=yf q3;rw[dI]at d;have hwf:YO T l (i+1) (.mk i m e g v):=⟨zdf _,W,o,G,ha⟩;have L:=J0 hT hF hE bK f d Dg IL jw (λrd B=>by
     grind)
    refine Co (ef:=none) (ao:=none) G w J K (zag _) rfl rfl (λa ob h=>by cases h) (λrd h=>zak _ h) (λD H M N c O Q u=>⟨λrd B=>?_,λjb=>.reader c O (by rw[Q,H.n]) λp w1 w2 w3=>?_⟩) L
    .rcases zao.1 B with rfl|B
     .intro p ⟨w1,w2,w3⟩ o' jx;have hoo:o'=o:=by rw[G]at jx;simp_all
      subst hoo;have cur:∃R:Tr Ob,Wh P e R o'.op v/\∀a,R.get a=mg (EK D h0 AR i).get (AL D (λj=>(mk l i).testBit j) i) a :=
       ⟨hr,hs,λa=>by rw[X a,←H.al,←Vc,←H.kQ,Cl,LW,W]⟩
      by_cases ep:p=i+1
      .subst ep;rw[FN c];exact cur
      .obtain⟨pre,s1,s2,s3⟩:=Cn (D:=D) (h0:=h0) (n:=i) (p:=p) (by omega);by_cases S:pre=[]
       .rw[←s3 S];exact cur
       .obtain⟨Z,hZ⟩:=Y pre (kr D p) (by rw[←H.kQ];exact s1) S (λx hx=>by
         obtain⟨b1,b2,b3⟩:=s2 x hx;rw[Tg,W];exact w3 x.1 b1 (by omega) b3)
        obtain⟨R,z1,z2⟩:=rd_l (P:=P) hT ha hZ;exact⟨R,z1,λa=>by rw[z2 a,Cl,←H.al,←Vc,LW,W]⟩
     .exact Cp c u rd B
    .obtain⟨R,z1,z2⟩:=jb (.mk i m e g v) (by simp) p ⟨w1,w2,w3⟩ o G;exact⟨R,by rw[M,N];exact wA hw (S9 z1),z2⟩
   .cases s
   .cases s
   .split at s
    .cases s
    .rename_i hcb;obtain⟨hp,q1,X⟩:=AS s;obtain⟨v,nx1,h1e,q2,z⟩:=opK_v (P:=P) (cx:=cx) (ds:=ds) (o:=o) hT hF hE bK q1;obtain⟨q3,hag⟩:=HB (P:=P) hT h4 q2;obtain⟨Q3,d,J,K⟩:=yf q3;rw[dI]at d;have L:=J0 hT hF hE bK f d Dg IL jw I;refine Co (ef:=some h1e) (ao:=none) G w J K z.1 rfl rfl (λa ob h=>by cases h) (λrd h=>h) (λD H M N c O Q u=>⟨λrd B p ⟨w1,w2,w3⟩=>?_,λ_=>?_⟩) L
     .by_cases ep:p=i+1
      .subst ep;cases rd with
       | mk q m' e' g' v' =>
        intro o' jx;obtain⟨b1,b2,o2,b3,b4⟩:=h4 _ B;rw[b3]at jx;cases jx;have hni:tb m q=false:=by rw[Tg,W];exact w2 i (zdf _) (by rw[c];simp)
        obtain⟨Z,hZ⟩:=hag q m' e' g' v' B hni;obtain⟨R,z1,z2⟩:=rd_l (P:=P) hT b4 hZ;refine⟨R,z1,λa=>?_⟩;rw[z2 a,←H.al,←Vc,LW,b2,Qd b3 (by omega)];rw[Cm c rfl (zdf _) λq a b=>by omega]
      .exact u rd B p ⟨by omega,w2,λq' x y=>w3 q' x (by omega)⟩
     .refine .effect h1e hp c O ?_ (λq hq he=>?_) λa=>?_
      .rw[M,N,H.n,Q];exact wA hw z
      .rw[←W];exact HC (by rw[H.kQ];exact hcb) q hq he
      .rw[X a,←H.al,←Vc,←H.kQ,Cl,LW,W]
end pass
section draw
variable {P:uG}{T:Tr TI}{F:Tr Func}{E:ET}{run:Cx->FZ->(V->Nat->Tr Ob->X S1)->X S1}{r:S1}{cx:Cx}{ds:LQ Df}{l:LQ Oper}{env:Tr V}{nx:Nat}{h:Tr Ob}
theorem EK_no{D h0 X}:∀{n},(∀j,j<n->X j=false)->EK D h0 X n=h0
 | 0,_=>rfl
 | n+1,h=>by
  have:EK D h0 X (n+1)=(match X n with|true=>(match D.tx n with|some H=>H|none=>EK D h0 X n)|false=>EK D h0 X n):=rfl;rw[this,h n (by omega)];exact EK_no λj a=>h j (by omega)
theorem AL_no{D X}:∀{n},(∀j,j<n->X j=false)->AL D X n=λ_=>none
 | 0,_=>rfl
 | n+1,h=>by
  have:AL D X (n+1)=(match X n with|true=>(match D.al n with|some (a,ob)=>mg (one a ob) (AL D X n)|none=>AL D X n)|false=>AL D X n):=rfl;rw[this,h n (by omega)];exact AL_no λj H=>h j (by omega)
def draw_v(hT:qn P T)(Z:Oa P F)(hE:Tb P E)(bK:sO P run)(hM:P.follows .mixedOrders=true){k}(u:X8 T F E run cx l env nx h k=.v r):∃env' q h',k env' q h'=.v r/\nx<=q /\
  ∀μ B w tmps (f) K kk id,HR μ B h.get w->ER μ env tmps->cx.n<=tmps.size->(∀o,nx<=o->o<q->μ o=none)->jz B w->CR μ cx ds f ->
   (∀μ' w' z,HR μ' B h'.get w'->ER μ' env' z->cx.n<=z.size->Ev μ h.get w μ' h'.get w' nx q->bT P f K kk z w')->bT P f K (.code (.region id ⟨l⟩ true)::kk) tmps w:=by
 unfold X8 at u;split at u
 .rename_i O;rw[FL (f:=id) (λn k=>by rw[dI];rfl)]at u;simp only[dB,zam]at O;obtain⟨⟨⟨⟨V4,G⟩,hB3⟩,I⟩,hB5⟩:=O;have x:∀(i:Nat) o,l[i]?=some o->∀e∈o.after,Region.binds .any e=true->e.on<i:=by
   intro i o H e Q hb;have S:=(zad.1 H).1;have h1:=bq I S;rw[H]at h1
   grind
  obtain⟨A,env',q,h',q1,q2,q3⟩:=J0 (cx:=cx) (ds:=ds) hT Z hE bK x u rfl (by simp) (zdo _) (λrd J=>by cases J);refine⟨env',q,h',q1,q2,λμ B w tmps f K kk id U Q hn hf hG hC hk=>?_⟩;have R:=q3 { A with N:=λj=>if j=0 then nx else A.N j } (λj _=>⟨rfl,rfl,rfl,rfl,by simp⟩) ⟨rfl,rfl,rfl,λi j a ob PB hi=>by omega,λj a ob d=>by omega⟩ (λrd J=>by cases J);generalize hD:({ A with N:=λj=>if j=0 then nx else A.N j }:Oh)=D at R;have m:D.N 0=nx:=by rw[←hD];rfl
  have p:∀i,i<l.length->D.N i<=D.N (i+1):=λi hi=>(R.ok i l[i] (zdo _) (zaf hi)).mono
  have y:Wd D h l.length (λj=>(Array.replicate (⟨l⟩:uD Oper).size false).getD j false)=h.get:=by
   have g:∀j,j<l.length->(Array.replicate (⟨l⟩:uD Oper).size false).getD j false=false:=λj d=>by simp_all
   funext a;unfold Wd;rw[EK_no g,AL_no g];unfold mg;cases h.get a<;>rfl
  have L:Wd D h l.length (λ_=>true)=h'.get:=funext λa=>(R.get a).symm
  refine bT.vH λt=>?_
  have PZ:Region.schedule (P.follows .mixedOrders) ⟨l⟩ t=Region.linearise .any ⟨l⟩ t:=by simp[Region.schedule,hM]
  rw[PZ];obtain⟨g1,V⟩:=U.grow (n:=nx) (Below.refl w.heap.size w).drew;unfold Region.linearise;refine Vb (P:=P) (cx:=cx) (ds:=ds) (V0:=D.V0) (EN:=D.EN) (N:=D.N) (W:=Wd D h l.length) (env0:=env) (μ0:=μ) (h0:=h.get) (w0:=w) ?_ ?_ x ?_ (λi t=>R.dst i t (zdo _)) p ?_ (λi o X H g hm jF=>hop_v (λj o=>R.ok j o (zdo _)) R.uniq i o X H g hm jF) (λμ' w' z c1 M c3 Y=>?_)
   _ _ t _ μ _ tmps (by simp) (λi o H hl=>?_) rfl ?_ ?_ ?_ (λi hi g o o1 o2=>?_) hn (V.tS U hG) hC (λs=>⟨λj d g=>?_,λ_ v hv=>?_⟩)
  .intro i j t hi d RX hdi si;have:=bq (bq G hi) d;simp_all
  .intro i o hi H t ht j d kP si;have h1:=bq V4 hi;rw[H]at h1;simp only[zbf]at h1;have h2:=bq (h1 t ht) d
   grind
  .intro i o t v H hv;obtain⟨a,b|⟨b,c⟩⟩:=R.en i o t v (zdo _) H hv
   .simp_all
   simp_all
  .intro X X' g;funext a;unfold Wd mg;rw[Th (X:=X) (X':=X') λj d _=>g j d,LS R.uniq (X:=X) (X':=X') (λj d _=>g j d) a]
  .rw[L]at c1 M;rw[m,R.n]at M;refine hk μ' w' z c1 (λt v hv=>?_) c3 M;rcases R.ev t v hv with⟨j,_,C,d3⟩|⟨d1,C⟩
   .have Px:j<l.length:=by
     unfold bW at C
     grind
    rw[←d3];exact(Y t).1 j Px rfl C
   .exact(Y t).2 (λj _ _=>d1 j (zdo _)) v C
  .have S:=(zad.1 H).1;simp_all
  .grind
  .rw[y];exact g1
  .rw[y,m,R.n];exact(Ev.refl μ h.get w nx).join V (zag _) q2 (zag _) q2 q2
  .refine hf o ?_ ?_
   .have:=AQ p (zdo i) (by omega);rw[m]at this;omega
   .have:=AQ p (show i+1<=l.length by omega) (zag _);rw[R.n]at this;omega
  .simp_all
  .exact Q s v hv
 .cases u
end draw
section step
variable {P:uG}{T:Tr TI}{F:Tr Func}{E:ET}{run:Cx->FZ->(V->Nat->Tr Ob->X S1)->X S1}{r:S1}{env:Tr V}{h:Tr Ob}{cx:Cx}{ds:LQ Df}{nx:Nat}
def Q4{id ops k}:Fwd P cx ⟨.k (.code (.region id ops false)::k),env,nx,h,ds⟩ (.go ⟨.o ops.toList ops.toList k,env,nx,h,ds⟩):=
 ⟨zag _,λv j h' ⟨g,H⟩=>⟨g,λ_ μ B w tmps f a b hn c d i=>by
  have:=H ⟨[],rfl⟩ μ B w tmps f a b hn c d i;refine bT.region ?_;have e:yc (.o ops.toList ops.toList k)=.inRegion ops (List.range ops.size)::k:=by simp[yc]
  rw[e]at this;exact this⟩⟩
def codeS_v(hT:qn P T)(q:Oa P F)(y:Tb P E)(u:sO P run)(z:P.follows .mixedOrders=true){c k}(H:X9 T F E run cx c k env nx h ds=.v r):Fwd P cx ⟨.k (.code c::k),env,nx,h,ds⟩ r:=by
 unfold X9 at H;split at H
 .cases H;exact mf λf K tmps w h=>bT.skipC h
 .cases H;exact mf λf K tmps w h=>bT.Wl h
 .cases H;exact mf λf K tmps w h=>bT.seq h
 .obtain⟨v,q1,H⟩:=eZ H;split at H
  .cases H;exact⟨zag _,λv x h' ⟨i,p⟩=>⟨i,λ_ μ B w tmps f j g hn l m n=>bT.cond (t:=true) (eT g q1).bool (p trivial μ B w tmps f j g hn l m n)⟩⟩
  .cases H;exact⟨zag _,λv x h' ⟨i,p⟩=>⟨i,λ_ μ B w tmps f j g hn l m n=>bT.cond (t:=false) (eT g q1).bool (p trivial μ B w tmps f j g hn l m n)⟩⟩
  .cases H
 .cases H;exact mf λf K tmps w h=>bT.block h
 .cases H;exact mf λf K tmps w h=>bT.loop h
 .split at H
  .rename_i k' hk;cases H;exact mf λf K tmps w h=>bT.exit hk h
  .cases H
 .split at H
  .rename_i k' hk;cases H;exact mf λf K tmps w h=>bT.goto hk h
  .cases H
 .cases H
 .split at H
  .cases H;exact Q4
  .rename_i id ops d;obtain⟨env',A,h1,q1,q2,C⟩:=draw_v (P:=P) (ds:=ds) hT q y u z H;cases q1;exact⟨q2,λv x h' ⟨i,p⟩=>⟨zci q2 i,λ_ μ B w tmps f j g hn l m n=>C μ B w tmps f _ _ _ j g hn (λo a b=>l o a (zaz b i)) m n λμ' w' D c1 G I s =>
    (p trivial μ' B w' D f c1 G I (s.AO l q2) (s.tS j m) (n.mono s.le)).mono λe N J=>J.N9 s⟩⟩
 .obtain⟨v,q1,H⟩:=eZ H;exact YH q u q1 H
 .split at H
  .cases H
  .rename_i L;split at H
   .rename_i fn M;exact out_v hT q u (q.fn M).1 L (.inr ⟨_,rfl⟩) H
   .cases H
 .cases H
def step_v(hT:qn P T)(j:Oa P F)(L:Tb P E)(y:sO P run)(N:P.follows .mixedOrders=true){s}(H:step T F E run cx s=.v r):Fwd P cx s r:=by
 unfold step at H;split at H
 .split at H
  .rename_i lo I;split at H
   .split at H
    .rename_i Q;cases H;refine⟨zag _,λ_ μ B w tmps f g m hn p q i=>?_⟩;obtain⟨a,b,c,d⟩:=i;obtain⟨z,A,ro,dk⟩:=f;simp only at a b c d;subst a;cases d;rw[I]at c;rw[Q]at b;subst b;cases ro with
     | none=>cases c
     | some b'=>exact bT.Bm (vd g (.c _))
    .cases H
   .cases H
  .rename_i I;split at H
   .rename_i fn t;split at H
    .exact out_v hT j y (j.fn t).1 I (.inl ⟨rfl,rfl⟩) H
    .cases H
   .cases H
 .split at H
  .exact codeS_v hT j L y N H
  .cases H;exact mf λf K tmps w h=>bT.inBlock h
  .cases H;exact mf λf K tmps w h=>bT.inLoop h
  .split at H
   .rename_i lo I;split at H
    .rename_i fn n e ps a b t;split at H
     .rename_i Q;obtain⟨h1,q1,q2⟩:=lF H;cases q1;refine⟨zag _,λv O h' ⟨C,D⟩=>⟨C,λ_ μ B w tmps f g m hn p q i=>?_⟩⟩;have G:=i;obtain⟨ca,cb,u,R⟩:=i;obtain⟨z,A,ro,dk⟩:=f;simp only at ca cb u R;subst ca;rw[I]at u;rw[Q]at cb;subst cb;cases ro with
      | none=>cases u
      | some b' =>
       obtain⟨pl,x,S⟩:=u;subst S;obtain⟨X,M,lp,J,Y,U,Z,r6,r7,r8,r9,V⟩:=g.ob lo _ t;rw[x]at M;cases M;obtain⟨t1,t2⟩:=JZ (n:=_) g t x J (st:=.busy) (b':=false) rfl q2;have W:(getObj pl.b).run P w=.ok (.loop lp) w:=by simp[getObj,Sem.run,J]
       refine bT.beginRound (w':={ w with heap:=w.heap.setIfInBounds pl.b (.loop { lp with state:=.busy }) }) ?_ ((D trivial μ B _ tmps _ t1 m hn p (t2.tS g q) G).mono λe w x=>x.N9 t2);simp only[Instr.beginRound,Instr.getLoop,Sem.run_bind,W,Result.andThen_ok,Sem.run_pure,Hy J,U];rfl
     .cases H
    .cases H
   .cases H
  .cases H
 .cases H;rename_i l k env nx h ds;refine⟨zag _,λv O h' ⟨C,D⟩=>⟨C,λ_ μ B w tmps f g m hn p q i=>?_⟩⟩;have e:yc (.o l [] k)=.inRegion ⟨l⟩ []::k:=by
   show Item.inRegion _ _::k=_;rw[zbs (by simp)]
  show bT P f _ (yc (.o l [] k)) tmps w;rw[e];exact bT.Dd (D trivial μ B w tmps f g m hn p q i)
 .split at H
  .cases H
  .exact opS_v hT j L y H
theorem it_v(hT:qn P T)(h:Oa P F)(H:Tb P E)(d:sO P run)(f:P.follows .mixedOrders=true):∀{n s r},it T F E run cx n s=.v r->Fwd P cx s r
 | 0,s,r,j=>step_v hT h H d f j
 | n+1,s,r,j=>by
  have R:(match it T F E run cx n s with|.v (.go s)=>it T F E run cx n s|r=>r)=.v r:=j;generalize k:it T F E run cx n s=q at R;cases q with
  | e a b=>cases R
  | v q=>cases q with
   | fin a b c =>
    cases R;exact it_v hT h H d f k
   | go s1 =>
    obtain⟨m,l⟩:Fwd P cx s (.go s1):=it_v hT h H d f k;have h2:Fwd P cx s1 r:=it_v hT h H d f R;cases r with
    | go s2=>exact⟨zci m h2.1,λv i h' g=>l v i h' (h2.2 v i h' g)⟩
    | fin v i h'=>exact l v i h' h2
def YQ(hT:qn P T)(a:Oa P F)(b:Tb P E)(c:P.follows .mixedOrders=true)(m):∀d,sO P (runN T F E m d)
 | 0=>λcx s k r H=>by
  unfold runN at H;cases H
 | d+1=>λcx s k r H=>by
  unfold runN at H;split at H
  .rename_i v nx h h1;exact⟨v,nx,h,H,it_v hT a b (YQ hT a b c m d) c h1⟩
  .cases H
  grind
end step
section tables
variable {P:uG}{r:S1}
theorem Tj{α ok}:∀{l i t} {k:Tr α->X S1},bld ok l i t k=.v r->∃c,k c=.v r/\∀j a,c.get j=some a->t.get j=some a∨∃m,j=i+m/\l[m]?=some a/\ok a=true
 | [],i,t,k,H=>⟨t,H,λj a h=>.inl h⟩
 | b::l,i,t,k,H=>by
  change(match ok b with
   | true=>Tr.set 64 t i b λt=>fN (Nat.succ i) λi=>bld ok l i t k
   | false=>fN (Nat.succ i) λi=>bld ok l i t k)=.v r at H
  split at H
  .rename_i f;obtain⟨g,q1,q2⟩:=lF H;rw[dI]at q1;obtain⟨c,q,d⟩:=Tj q1;refine⟨c,q,λj a h=>?_⟩;rcases d j a h with h|⟨m,e,h1,h2⟩
   .rw[q2 j]at h;by_cases e:j=i
    .rw[zab e]at h;simp_all
    simp_all
   .exact .inr ⟨m+1,by omega,by simp_all,h2⟩
  .rw[dI]at H;obtain⟨c,q,d⟩:=Tj H;refine⟨c,q,λj a h=>?_⟩;rcases d j a h with h|⟨m,e,h1,h2⟩
   .grind
   .exact .inr ⟨m+1,by omega,by simp_all,h2⟩
def YR{t:uE}(h:t<P.types.size):P.info? t=P.types[t]?:=by
 unfold Tables.info?;rw[zab h]
section tt
variable {TT:Tr TypeInfo}(Bi:∀j a,TT.get j=some a->P.info? j=some a)
include Bi
theorem Tk{t d}(h:unT TT t=some d):P.underlying t=some d:=by
 unfold unT at h;split at h
 .rename_i i hi;unfold Program.underlying;rw[Bi _ _ hi];obtain⟨H,a,b,c,e,f,g⟩:=i
  grind
 .cases h
theorem gD_v{t d}(h:unT TT t=some d):QH P t=gD d:=by
 unfold QH;rw[Tk Bi h];cases d<;>rfl
theorem sz_v{t i}(h:TT.get t=some i):Go.Abs.rn P t=i.size:=by
 unfold Go.Abs.rn;rw[Bi _ _ h]
theorem zI_v{t i}(h:TT.get t=some i):QI P t=zI i:=by
 unfold QI;rw[Bi _ _ h];rfl
theorem fsT_v:∀{l m},fsT TT l=some m->(l.all λf=>(P.info? f.type).isSome && (P.underlying f.type).isSome)=true/\m=l.map λf=>(f.offset,QH P f.type,Go.Abs.rn P f.type)
 | [],m,h=>by cases h;simp_all
 | f::l,m,h=>by
  unfold fsT at h;split at h
  .rename_i i hi;split at h
   .rename_i d H;split at h
    .rename_i q a;cases h;obtain⟨h1,h2⟩:=fsT_v a;refine⟨?_,?_⟩
     .rw[List.all_cons,h1,Bi _ _ hi,Tk Bi H];rfl
     .rw[zbb,←h2,gD_v Bi H,sz_v Bi hi]
    .cases h
   .cases h
  .cases h
theorem Q5{e k q}(h:both TT e k=some q):q=k/\((P.info? e).isSome && (P.underlying e).isSome)=true:=by
 unfold both at h;split at h
 .rename_i i hi;split at h
  .rename_i d H;cases h;rw[Bi _ _ hi,Tk Bi H];simp_all
  .cases h
 .cases h
theorem tkT_v{d k}(h:tkT TT d=some k):lD P d=k:=by
 unfold tkT at h;split at h
 .cases h;rfl
 .cases h;rfl
 .cases h;rfl
 .obtain⟨rfl,h2⟩:=Q5 Bi h;unfold lD;simp_all
 .obtain⟨rfl,h2⟩:=Q5 Bi h;unfold lD;simp_all
 .obtain⟨rfl,h2⟩:=Q5 Bi h;unfold lD;simp_all
 .cases h;rfl
 .cases h;rfl
 .split at h
  .rename_i l hl;cases h;obtain⟨h1,h2⟩:=fsT_v Bi hl;unfold lD
   grind
  .cases h
 .rename_i a H b c e f g i j;cases h;cases d<;>first|rfl|exact absurd rfl a|exact absurd rfl (H _)|exact absurd rfl b|exact absurd rfl (c _)|exact absurd rfl (e _ _)|exact absurd rfl (f _ _)|exact absurd rfl (g _)|exact absurd rfl (i _ _ _)|simp_all
theorem tiT_v{t a}(h:tiT TT P t=some a):XT P t=some a:=by
 unfold tiT at h;split at h
 .rename_i i hi;split at h
  .rename_i d c;split at h
   .rename_i k hk;split at h
    .rename_i j H;split at h
     .rename_i e b;cases h;unfold XT;rw[Bi _ _ hi,Tk Bi c];simp only;rw[tkT_v Bi hk,zI_v Bi hi,sz_v Bi H,zI_v Bi H,gD_v Bi b,gD_v Bi c];have:LA P (FJ d)=j.bytes:=by unfold LA;rw[Bi _ _ H]
      rw[this]
     .cases h
    .cases h
   .cases h
  .cases h
 .cases h
end tt
def fTI_eq{β} i(k:TI->β):fTI i k=k i:=by
 unfold fTI;split
 .rename_i h s z ez e eg g fk fq eb pe;rw[FL (f:=id) (λx k=>by rw[dI,dI,dI];rfl),dI,Ho,dI];simp
 .simp only[dI,Ho]
 .simp only[dI,Ho]
 .simp only[dI,Ho]
 .simp only[dI,Ho]
def HD{TT:Tr TypeInfo}(Bi:∀j a,TT.get j=some a->P.info? j=some a):∀{n i t k},Hm P TT n i t k=.v r->(∀j a,t.get j=some a->XT P j=some a)->∃c,k c=.v r/\qn P c
 | 0,i,t,k,h,ht=>⟨t,h,ht⟩
 | n+1,i,t,k,h,ht=>by
  unfold Hm at h;split at h
  .rename_i a ha;rw[fTI_eq]at h;obtain⟨d,q1,q2⟩:=lF h;rw[dI]at q1;refine HD Bi q1 λj b H=>?_
   rw[q2 j]at H;by_cases e:j=i
   .subst e;rw[zab rfl]at H;cases H;exact tiT_v Bi ha
   simp_all
  .rw[dI]at h;exact HD Bi h ht
end tables
def main_v{P E f xs v nx h}(l:Tb P E)(n:P.follows .mixedOrders=true)(i:main P E .e f xs=.v (.fin v nx h)):
  ∀w us,(∀μ,Rs μ xs us)->jz w.heap.size w->Calls P f ⟨us⟩ w λe w'=>∃u μ,e=.returned u/\R μ v u/\Below w.heap.size w w':=by
 intro w us p r;unfold main at i;obtain⟨TT,q,Bi⟩:=Tj i;rw[dI]at q;obtain⟨T,q1,hT⟩:=HD (P:=P) (λj a h=>by
  rcases Bi j a h with h|⟨m,e,h1,_⟩
  .cases h
  .have e:j=m:=by omega
   subst e;rw[zcf]at h1;rw[YR (zbe.1 h1).1];exact h1) q (λj a h=>by cases h)
 obtain⟨F,q2,H⟩:=Tj q1;have k:Oa P F:=λg fn h=>by
  rcases H g fn h with h|⟨m,e,h1,h2⟩
  .cases h
  .have e:g=m:=by omega
   subst e;rw[zcf]at h1;unfold fnOf;rw[h1]
   grind
 obtain⟨v',y,h',s,z,A,t⟩:=Ck k (YQ hT k l n 40 60) q2;cases s;have h0:HR (λ_=>none) w.heap.size (Tr.e:Tr Ob).get w:=⟨zag _,λo x h=>(by cases h),λo x pl h=>(by cases h),λo cs pl h=>(by cases h),λo o' x x' pl pl' _ h=>(by cases h)⟩;have:=t (λ_=>none) w.heap.size w us h0 (p _) (λ_ _ _=>rfl) r;exact this.mono λe w' ⟨u,μ',a,b,c,d⟩=>⟨u,μ',a,b,d.below h0⟩
def isTrue(x:X S1):= match x with
 | .v (.fin (.c (.bool b)) _ _)=>b
 | _=>false
def awake_v{P E f}(d:Tb P E)(g:P.follows .mixedOrders=true)(H:isTrue (main P E .e f [])=true):aR P f [] (·=.ex (.bool true)):=by
 unfold isTrue at H;split at H
 .rename_i b nx h i;subst H;intro lim w vs j k;have x:vs=⟨[]⟩:=Array.eq_empty_of_size_eq_zero k.1;subst x;refine(main_v d g i w [] (λμ=>.nil) j).mono λe w' ⟨u,μ,a,b,c⟩=>?_
  cases b;exact⟨_,_,lim,a,rfl,.ex _,zG c.size λb l=>⟨zag _,.inr (c.block b l)⟩,c,λ_ _=>rfl⟩
 grind
def ExOk0(P:uG)(g:Nat)(x:LQ V->Tr Ob->(V->X S1)->X S1):=
 Enters P g/\∀xs h k r,x xs h k=.v r->∃v,k v=.v r/\∀μ B w us,HR μ B h.get w->Rs μ xs us->jz B w->Calls P g ⟨us⟩ w λe w'=>∃u,e=.returned u/\R μ v u/\Below w.heap.size w w'
def toB8(l:LQ Nat):= l.map UInt8.ofNat
def YS(bs):toB8 (bs.map UInt8.toNat)=bs:=by
 unfold toB8;rw[List.map_map];exact(zeo λb _=>by simp).trans (List.map_id bs)
def lift0(x:LQ V->Tr Ob->(V->X S1)->X S1):EF:=λxs nx h k=>x xs h λv=>k v nx h
def lift0_v{P g x}(hx:ExOk0 P g x):ExOk P g (lift0 x):=
 ⟨hx.1,λxs nx h k r d=>by
  obtain⟨v,q1,q2⟩:=hx.2 xs h (λv=>k v nx h) r d;refine⟨v,nx,h,q1,zag _,λμ B w us H f hn i=>(q2 μ B w us H f i).mono λe w' ⟨u,a,b,c⟩=>?_⟩;obtain⟨g1,g2⟩:=H.grow (n:=nx) c;exact⟨u,μ,a,b,g1,g2⟩⟩
def exL:List (Nat×EF)->ET
 | [],_=>none
 | (i,x)::l,n=>match Nat.beq n i with
  | true=>some x
  | false=>exL l n
def exL_v{P}:∀{l},(∀x,x∈l->ExOk P x.1 x.2)->Tb P (exL l)
 | [],_=>λg z h=>by cases h
 | (i,x)::l,hl=>λg z h=>by
  unfold exL at h;split at h
  .simp_all
  .exact exL_v (λy hy=>hl y (zak _ hy)) g z h
def lies_0{P e}(H:P.cellsOf e≠0)(count n)(hn:n<=count):liesAt P P.depth e count 0 e n=true:=by
 have h:P.depth=(2*(P.types.size+Made.depth)+1)+1:=rfl;rw[h];simp only[liesAt,zcj];left;rw[h];simp[rowAt,H,hn,sameLayout]
def exCC(ty:Nat):EF:=λxs nx h k=>match xs with
 | [.p o 0]=>match h.get o with
  | some (.c t sz [.c (.pointer none),v])=>match Nat.beq t ty with
   | true=>Tr.set 64 h o (.c t sz [.p o 0,v]) λh=>k (.t []) nx h
   | false=>no 400
  | _=>no 401
 | _=>no 402
def exCC_v{P}{g ty:Nat}(j:Enters P g)
  (z:∀b c w,w.cell? ⟨b,0,none⟩=some (.pointer none)->w.shape? b=some (ty,c)->2<=c->w.frozen? ⟨b,0,none⟩=false->Calls P g #[.pointer (some ⟨b,0,none⟩)] w λe w'=>e=.returned (.tuple #[])/\w'=w.setCell ⟨b,0,none⟩ (.pointer (some ⟨b,0,none⟩))):ExOk P g (exCC ty):=by
 refine⟨j,λxs nx h k r H=>?_⟩;unfold exCC at H;split at H
 .rename_i o;split at H
  .rename_i t sz v q;split at H
   .rename_i d;have d:=zai d;subst d;obtain⟨h',q1,q2⟩:=lF H;refine⟨_,_,_,q1,zag _,λμ B w us s A hn K=>?_⟩;obtain⟨pl,l,C,f,fz,pre,vs,post,a,D,m,E,F,L⟩:=s.ob o _ q;cases A with
    | cons h1 h2 =>
     cases h2;cases h1 with
     | p _ y =>
      rw[l]at y;cases y;rw[f]at m;have i:pre=[]:=List.length_eq_zero_iff.1 m;subst i;cases F with
      | cons G a2 =>
       cases G;cases a2 with
       | cons a2 a3 =>
        cases a3;rename_i u;simp only[zcs,List.cons_append]at a;rw[f];have M:=(zbe.1 a).1;refine(z pl.b (post.length+2) w (by simp[World.cell?,a]) (by simp[World.shape?,a]) (by omega) (by
         obtain⟨lo,hi⟩:=fz;simp only[World.frozen?,a,Bool.and_eq_false_iff,zdn]
         grind)).mono λe w' ⟨I,J⟩=>?_
        subst I;subst J;rw[setCell_eq_setRow w pl.b 0 _ t fz _ a];obtain⟨s1,s2⟩:=s.xn (h':=h'.get) (n:=nx) (w':=w.setRow pl.b ((⟨.pointer none::u::post⟩:uD uB).setIfInBounds 0 (.pointer (some ⟨pl.b,0,none⟩)))) (x':=.c t sz [.p o 0,v]) q rfl l q2 (λcs e=>by cases e) (by simp) (λb d=>setRow_other w pl.b b _ d) rfl rfl rfl
         ⟨C,f,fz,[],[.pointer (some ⟨pl.b,0,none⟩),u],post,setRow_heap w pl.b _ _ t fz a,D,m.trans f.symm,E,.cons (by have:=R.p (μ:=μ) (o:=o) 0 l;rwa [f]at this) (.cons a2 .nil),λx hx=>by
          simp at hx;rcases hx with rfl|rfl
          .rfl
          simp_all⟩
        exact⟨_,μ,rfl,.t .nil,s1,s2⟩
   .cases H
  .cases H
 .cases H
def exTB(f:List uA->uA->Int)(xs:List V)(h:Tr Ob)(k:V->X S1):= match xs with
 | [.s a,.c (.int .u8 (.ofNat c))]=>match Nat.ble c 255 with
  | true=>fI (f (toB8 a) (UInt8.ofNat c)) λn=>k (.c (.int .i64 n))
  | false=>no 308
 | _=>no 309
def exTB_v{P}{g:Nat}{f}(b:Enters P g)
  (i:∀a c w,Calls P g #[.string ⟨⟨a⟩⟩,.int .u8 c.toNat] w λe w'=>e=.returned (.int .i64 (f a c))/\w'=w):ExOk0 P g (exTB f):=by
 refine⟨b,λxs h k z H=>?_⟩;unfold exTB at H;split at H
 .rename_i a c;split at H
  .rename_i d;have d:=zae d;rw[Ya]at H;refine⟨_,H,λμ B w us p j q=>?_⟩;cases j with
   | cons h1 h2 =>
    cases h2 with
    | cons h2 h3 =>
     cases h3;cases h1 with
     | s l =>
      cases h2;have m:((UInt8.ofNat c).toNat:Int)=(c:Int):=by
       have:(UInt8.ofNat c).toNat=c:=by simp;omega
       rw[this]
      have:=i l (UInt8.ofNat c) w;rw[m]at this;refine this.mono λe w' ⟨n,o⟩=>?_
      subst o;rw[YS];exact⟨_,n,.c _,Below.refl _ _⟩
  .cases H
 .cases H
end Go.CI
namespace Go.Abs
open Go.RowKit
theorem aR.libStrs{P f args xs T}
  (h:∀lim w vs,jz w.heap.size w->zF lim w args vs->Calls P f vs w λe w'=>e=.returned (.slice (some ⟨w.heap.size,0,none⟩) xs.length xs.length)/\w'=w.alloc (.cells (xs.map λx=>Value.string ⟨x.toArray⟩).toArray T)):aR P f args (·=au 1 rS xs):=by
 intro lim w vs l ha;refine(h lim w vs l ha).mono ?_;rintro e w' ⟨rfl,rfl⟩;generalize m:Obj.cells (xs.map λx=>Value.string ⟨x.toArray⟩).toArray T=O;have d:Below w.heap.size w (w.alloc O):=(Below.refl _ w).alloc (zag _) _;have z:∀b,b<w.heap.size->(if b=w.heap.size then xs.length else lim b)=lim b:=λb H=>zaa (by omega)
 refine⟨_,_,λb=>if b=w.heap.size then xs.length else lim b,rfl,rfl,?_,⟨d.size,λb H=>by rw[z b H];omega,λb off H _=>d.cell (p:=⟨b,off,none⟩) H⟩,d,z⟩
 have n:∀(j:Nat) x,xs[j]?=some x->(w.alloc O).cell? ⟨w.heap.size,j,none⟩=some (.string ⟨x.toArray⟩):=λj x a=>by
  subst m;simp_all
 have hl:(xs.map rS).length=xs.length:=zcb _;have:cq (λb=>if b=w.heap.size then xs.length else lim b) (w.alloc O) (.sl 1 (xs.map rS)) (.slice (some ⟨w.heap.size,0,none⟩) (xs.map rS).length xs.length):=by
  refine .sl 1 (xs.map rS) w.heap.size 0 _ (by simp) (λrow o=>by obtain⟨x,_,rfl⟩:=zck.1 o;rfl) (λk hk=>?_) (λi j row c u hi a g=>?_)
  .have M:k<xs.length:=by omega
   refine⟨by rw[zab rfl];omega,.string ⟨xs[k].toArray⟩,?_,rfl⟩;rw[zbh];simp_all
  .rw[zau]at hi;obtain⟨x,hx,rfl⟩:=zcp.1 hi
   match j with
   | 0 =>
    rw[Nat.mul_one,zct,zbh,n i x hx]at g;cases g;simp[rS]at a;subst a;exact .ex _
   | j+1=>simp[rS]at a
 rw[hl]at this;exact this
theorem aR.libPair{P f args a b}
  (h:∀lim w vs,jz w.heap.size w->zF lim w args vs->Calls P f vs w λe w'=>e=.returned (.tuple #[a,b])/\Below w.heap.size w w'):aR P f args (·=.dp [.ex a,.ex b]):=by
 intro lim w vs j ha;refine(h lim w vs j ha).mono ?_;rintro e w' ⟨rfl,g⟩;refine⟨_,_,lim,rfl,rfl,.dp _ _ rfl λi c u H d=>?_,⟨g.size,λ_ _=>zag _,λb off k _=>g.cell (p:=⟨b,off,none⟩) k⟩,g,λ_ _=>rfl⟩
 match i with
 | 0=>simp at H d;subst H d;exact .ex _
 | 1=>simp at H d;subst H d;exact .ex _
 | i+2=>simp at H
end Go.Abs
namespace Go.Proofs.YtleflofddacmdaaGreatDoor
open Go.RowKit Go.Abs
def Q6(b c:Nat)(w:uC)(h0:w.cell? ⟨b,0,none⟩=some (.pointer none))(h:w.shape? b=some (143,c))(g:2<=c)(f:w.frozen? ⟨b,0,none⟩=false):
  Calls Tryz.prog 107 #[.pointer (some ⟨b,0,none⟩)] w λe w'=>e=.returned (.tuple #[])/\w'=w.setCell ⟨b,0,none⟩ (.pointer (some ⟨b,0,none⟩)):=by
 have a:Tryz.prog.cellsOf 143=2:=by kernel_rfl
 obtain⟨j,d,H⟩:=zcp.1 (show(Tryz.prog.info? 143).map (·.size)=some 2 by kernel_rfl)
 go_enter Tryz.func107,Tryz.ntmps107
 go_wp2
 rw[Lib.run_to_unsafe w ⟨b,0,none⟩ Tryz.underlying141 Tryz.underlying420 d (by rw[H];decide) h (show 0<c by omega)];simp only[Result.andThen];rw[Oper.upon_value]
 go_wp2
 rw[run_callFunc_extern Tryz.func217 (by kernel_rfl) (by kernel_rfl) (by kernel_rfl) (e:=Extern.AbiNoEscape.same) (by kernel_rfl)];rw[Lib.run_noEscape];simp only[Result.andThen];rw[Oper.upon_value]
 go_wp2
 rw[Lib.run_from_unsafe w ⟨b,0,none⟩ Tryz.underlying420 Tryz.underlying141 d h (Go.CI.lies_0 (by rw[a];decide) _ _ (by rw[a];omega))];simp only[Result.andThen];rw[Oper.upon_value]
 go_wp2
 go_end0
 exact⟨rfl,rfl⟩
def Q7(a:LQ uA)(c:uA)(w:uC):Calls Tryz.prog 433 #[.string ⟨⟨a⟩⟩,.int .u8 (c.toNat:Int)] w λe w'=>e=.returned (.int .i64 (Go.Lib.indexByte a c))/\w'=w:=by
 refine(Tryz.stringslite_IndexByte ⟨⟨a⟩⟩ (c.toNat:Int) w).mono ?_;rintro e w' ⟨rfl,rfl⟩;exact⟨by simp,rfl⟩
def exW:Go.CI.ET:=Go.CI.exL [(107,Go.CI.exCC 143),(433,Go.CI.lift0 (Go.CI.exTB Go.Lib.indexByte))]
def exW_ok:Go.CI.Tb Tryz.prog exW:=Go.CI.exL_v λx hx=>by
 rcases zao.1 hx with rfl|hx
 .exact Go.CI.exCC_v ⟨Tryz.f107,Tryz.func107,by kernel_rfl,by kernel_rfl⟩ Q6
 rcases zao.1 hx with rfl|hx
 .exact Go.CI.lift0_v (Go.CI.exTB_v ⟨Tryz.f433,Tryz.func433,by kernel_rfl,by kernel_rfl⟩ Q7)
 cases hx
def Vd:aR Tryz.prog 5 [] (·=.ex (.bool true)):=Go.CI.awake_v exW_ok (by kernel_rfl) (by kernel_rfl)
def tab_is{w:uC}(h:jz w.heap.size w):Go.Lib.TabIs Tryz.prog w "internal/strconv.uint64pow10" .u64 Go.Lib.pow10Tab:=by
 obtain⟨_,ty,fr,h2⟩:=h.1 (2,(Go.Lib.pow10Tab.map λz=>Value.int .u64 z).toArray) (by simp[GL]);have hn:Tryz.prog.globalNamed "internal/strconv.uint64pow10" = some 2:=by kernel_rfl
 unfold Go.Lib.TabIs World.var?;rw[hn];simp only[zac];simp only at h2;rw[h2]
def YT{w:uC}(h:jz w.heap.size w):∃m,w.cell? ⟨0,0,none⟩=some (.int .i64 m):=(h.2 0 (by simp[GI])).2
def sP{n:Int}{r:LQ uA}(H:tZ n=some r):aR Tryz.prog 106 [cI n] (·=cS r):=by
 obtain⟨h,H⟩:=iS H;cases H;refine aR.lib λlim w vs a ha=>?_
 obtain⟨v,rfl,hv⟩:=ha.one;rw[kC hv];refine(Tryz.strconv_Itoa n h.1 h.2 w (tab_is a)).mono ?_;rintro e w' ⟨rfl,k,os,rfl⟩;exact⟨rfl,Hc w k os⟩
def YU{xs:LQ (LQ uA)}{sep r:LQ uA}(H:Qy xs sep=some r):aR Tryz.prog 251 [au 1 rS xs,cS sep] (·=cS r):=by
 obtain⟨h,H⟩:=iS H;cases H;refine aR.lib λlim w vs n ha=>?_
 obtain⟨v,u,rfl,hv,f⟩:=ha.two;rw[kC f];rcases QC hv with⟨A,c,rfl,rfl⟩|⟨b,off,c,rfl,g,i,k⟩
 .exact(Tryz.strings_Join_none A c ⟨sep.toArray⟩ w).mono λe w' ⟨l,m⟩=>⟨l,m▸Below.refl _ _⟩
 .have a:(xs.map λx=>(⟨x.toArray⟩:ByteArray)).map (·.data.toList)=xs:=by simp[Function.comp_def]
  have:=Tryz.strings_Join b off c (xs.map λx=>(⟨x.toArray⟩:ByteArray)) ⟨sep.toArray⟩ w (λj x d=>by
   rw[zau]at d;obtain⟨y,hy,rfl⟩:=zcp.1 d;exact k j y hy) i (by simp;omega) (by simpa using g) (by rw[a];simp;omega)
  rw[a,zcb]at this;exact this
def Ve{s sub:LQ uA}{r:Int}(H:Lh s sub=some r):aR Tryz.prog 247 [cS s,cS sub] (·=cI r):=by
 obtain⟨h,H⟩:=iS H;cases H;refine aR.lib λlim w vs a ha=>?_
 obtain⟨v,u,rfl,hv,b⟩:=ha.two;rw[kC hv,kC b];obtain⟨m,hm⟩:=YT a;refine(Tryz.strings_Index ⟨s.toArray⟩ ⟨sub.toArray⟩ m w (by simp[ByteArray.size];omega) hm).mono ?_;rintro e w' ⟨rfl,rfl⟩;exact⟨by simp,Below.refl _ _⟩
def Jd{s p:LQ uA}{r:LQ uA×Bool}(H:xH s p=some r):aR Tryz.prog 245 [cS s,cS p] (·=.dp [cS r.1,cB r.2]):=by
 obtain⟨h,H⟩:=iS H;cases H;refine aR.libPair λlim w vs b ha=>?_
 obtain⟨v,u,rfl,hv,a⟩:=ha.two;rw[kC hv,kC a];refine(Tryz.strings_CutSuffix ⟨s.toArray⟩ ⟨p.toArray⟩ w (by simp[ByteArray.size];omega)).mono ?_;rintro e w' ⟨rfl,rfl⟩;exact⟨by simp,Below.refl _ _⟩
def J1{s sep:LQ uA}{r:LQ (LQ uA)}(H:BY s sep=some r):aR Tryz.prog 192 [cS s,cS sep] (·=au 1 rS r):=by
 obtain⟨h,H⟩:=iS H;cases H;refine aR.libStrs (T:=9) λlim w vs c ha=>?_
 obtain⟨v,u,rfl,hv,d⟩:=ha.two;rw[kC hv,kC d];obtain⟨m,hm⟩:=YT c;have h1:1<=(⟨sep.toArray⟩:ByteArray).size:=by simp[ByteArray.size];omega
 have a:=Go.Lib.splitB_all ⟨sep.toArray⟩ h1 0 _ (⟨s.toArray⟩:ByteArray) rfl;have b:(Go.Lib.splitB ⟨sep.toArray⟩ 0 (Go.Lib.countB ⟨s.toArray⟩ ⟨sep.toArray⟩) ⟨s.toArray⟩).map (·.data.toList)=Go.Lib.split s sep:=by
  rw[Go.Lib.splitB_data];simp[Go.Lib.split,Go.Lib.countB]
 have f:(Go.Lib.split s sep).length=Go.Lib.countB ⟨s.toArray⟩ ⟨sep.toArray⟩+1:=by rw[←b,zcb,a]
 have g:(Go.Lib.splitB ⟨sep.toArray⟩ 0 (Go.Lib.countB ⟨s.toArray⟩ ⟨sep.toArray⟩) ⟨s.toArray⟩).map Value.string=(Go.Lib.split s sep).map λx=>Value.string ⟨x.toArray⟩:=by
  rw[←b,List.map_map];apply zeo;intro x _;simp
 refine(Tryz.strings_Split ⟨s.toArray⟩ ⟨sep.toArray⟩ m w (by simp[ByteArray.size];omega) hm h1).mono ?_;rintro e w' ⟨rfl,rfl⟩;exact⟨by rw[f],by rw[g]⟩
def E1{r:Bool}(H:DK=some r):aR Tryz.prog 5 [] (·=cB r):=by
 cases H;exact Vd
end Go.Proofs.YtleflofddacmdaaGreatDoor
namespace Go.Proofs.YtleflofddacmdaaGreatDoor
open Go.RowKit Go.Abs Go.Proofs.Tryz
def Cq{h:Int}{r:(LQ Bool)}:sA h=some r->aR prog 72 [cI h] (rE (λr=>.agg [cB (nth r 0),cB (nth r 1),cB (nth r 2),cB (nth r 3),cB (nth r 4)]) r):=
 have⟨_,H,_,J,_⟩:=Xl;have⟨_,a,b,_,_⟩:=Xn;.S func72 rfl ntmps72 results72 rfl λS f F=>.V 15 [.r 0] rfl (.AP 5 [.d (.agg [cB true,cB false,cB false,cB true,cB true])] rfl (aG.g (nG underlying210 a b H J rfl rfl)) (.R F)) (.V 5 [] rfl (.AP 5 [.d (.agg [cB true,cB false,cB false,cB false,cB false])] rfl (aG.g (nG underlying210 a b H J rfl rfl)) (.R F)) (.V 5 [] rfl (.AP 5 [.d (.agg [cB true,cB true,cB false,cB true,cB false])] rfl (aG.g (nG underlying210 a b H J rfl rfl)) (.R F)) (.sj (ι:=Bool) [2,3] (λx=>[(13,.d (cB x))]) (λ_=>[]) (λs=>mQ h s=some r) (λx=>.I rfl (.AP 5 [.d (.agg [cB false,cB true,cB true,cB false,cB false])] rfl (aG.g (nG underlying210 a b H J rfl rfl)) (.R F)) (.sj (ι:=Bool) [2,3] (λc=>[(17,.d (cB c))]) (λ_=>[]) (λs=>kj h s=some r) (λc=>.I rfl (.AP 5 [.d (.agg [cB false,cB true,cB false,cB true,cB false])] rfl (aG.g (nG underlying210 a b H J rfl rfl)) (.R F)) (.sj (ι:=Bool) [2] (λe=>[(22,.d (cB e))]) (λ_=>[]) (λs=>mP s=some r) (λe=>.I rfl (.AP 5 [.d (.agg [cB true,cB false,cB false,cB false,cB true])] rfl (aG.g (nG underlying210 a b H J rfl rfl)) (.R F)) (.AP 7 [.d (.agg [cB false,cB true,cB false,cB false,cB false])] rfl (aG.g (nG underlying210 a b H J rfl rfl)) (.R F))) (λT=>.V 5 [] rfl (.A 1 [] rfl (.zi T (h==14))) (.A 4 [] rfl (.zi T (h==15)))))) (λE=>.V 5 [] rfl (.A 1 [] rfl (.zi E (h==7))) (.V 5 [] rfl (.A 1 [] rfl (.zi E (h==8))) (.A 4 [] rfl (.zi E (h==9))))))) (λo=>.V 5 [] rfl (.A 1 [] rfl (.zi o (h==5))) (.A 4 [] rfl (.zi o (h==6)))))))
def HG{h:Int}{r:Bool}:BZ h=some r->aR prog 151 [cI h] (rE cB r):=
 .S func151 rfl ntmps151 results151 rfl λS H F=>.Z 14 [] rfl F
def LY{H:LQ uA}{r:Bool}:wc H=some r->aR prog 152 [cS H] (rE cB r):=
 .S func152 rfl ntmps152 results152 rfl λS q F=>aN λk=>aN λl=>.AP 26 [.c (nth H (Int.toNat (0))),.b (decide ((nth H (Int.toNat (0)))<97)),.c (nth H (Int.toNat (0))),.b (decide ((nth H (Int.toNat (0))) > 122))] rfl ⟨λf=>aG.g (xw (a:=nth H (Int.toNat (0))) (b:=122) rfl rfl),λf=>aG.g (kS (i:=0) underlying9 rfl rfl (l f)),λf=>aG.g (Dq (a:=nth H (Int.toNat (0))) (b:=97) rfl rfl),λf=>aG.g (kS (i:=0) underlying9 rfl rfl (k f))⟩ (.I rfl (.Z 4 [] rfl F) (.A 7 [] rfl (.lq [0] (λe=>[(3,.d (cI e))]) (λ_=>[]) rfl rfl (λe q1 j=>.V 8 [] rfl (aN λm=>aN λn=>aN λo=>aN λs=>.BP 25 [.c (nth H e.toNat),.b (decide ((nth H e.toNat)<97)),.c (nth H e.toNat),.b (decide ((nth H e.toNat) > 122)),.c (nth H e.toNat),.b (decide ((nth H e.toNat)<48)),.c (nth H e.toNat),.b (decide ((nth H e.toNat) > 57))] rfl ⟨λf=>aG.g (xw (a:=nth H e.toNat) (b:=57) rfl rfl),λf=>aG.g (kS (i:=e) underlying9 rfl rfl (s f)),λf=>aG.g (Dq (a:=nth H e.toNat) (b:=48) rfl rfl),λf=>aG.g (kS (i:=e) underlying9 rfl rfl (o f)),λf=>aG.g (xw (a:=nth H e.toNat) (b:=122) rfl rfl),λf=>aG.g (kS (i:=e) underlying9 rfl rfl (n f)),aG.g (Dq (a:=nth H e.toNat) (b:=97) rfl rfl),aG.g (kS (i:=e) underlying9 rfl rfl m)⟩ (lf (.jI (env':=[(43,_),(47,_)]) rfl rfl rfl ⟨.inr (.inl rfl),⟨.inr (.inr ⟨_,_,rfl,rfl⟩),trivial⟩⟩ rfl (λf=>aG.g (Jy rfl rfl rfl))) (aN λx=>.AP 8 [.c (nth H e.toNat),.b ((nth H e.toNat) != 45)] rfl ⟨λf=>aG.g (vO (a:=nth H e.toNat) (b:=45) rfl rfl),λf=>aG.g (kS (i:=e) underlying9 rfl rfl (x f))⟩ (.I rfl (.A 4 [] rfl (.R1 F j)) (aN λp=>.A 7 [.h p] rfl (.zl j)))))) (.A 5 [] rfl (.R1 F j))))))
def Je{e:LQ uA}{r:Bool}:tA e=some r->aR prog 153 [cS e] (rE cB r):=
 .S func153 rfl ntmps153 results153 rfl λS o F=>.A 9 [] rfl (.bj (ι:=Unit) [0] (λ_=>[]) (λ_=>[]) (λs=>sB e=some r) (λ_=>.Z 12 [] rfl F) (λp k=>.lq [0] (λH=>[(3,.d (cI H))]) (λ_=>[]) rfl rfl (λH q1 f=>.V 8 [] rfl (aN λl=>aN λm=>.AP 16 [.c (nth e H.toNat),.b (decide ((nth e H.toNat)<48)),.c (nth e H.toNat),.b (decide ((nth e H.toNat) > 57))] rfl ⟨λj=>aG.g (xw (a:=nth e H.toNat) (b:=57) rfl rfl),λj=>aG.g (kS (i:=H) underlying9 rfl rfl (m j)),aG.g (Dq (a:=nth e H.toNat) (b:=48) rfl rfl),aG.g (kS (i:=H) underlying9 rfl rfl l)⟩ (.I rfl (.A 4 [] rfl (.R1 F f)) (aN λn=>.A 7 [.h n] rfl (.zl f)))) (.A 1 [] rfl (GO f (.zi k ()))))))
def Jf{X:Event}{r:Bool}:tB X=some r->aR prog 154 [.agg (Event.row X)] (rE cB r):=
 .S func154 rfl ntmps154 results154 rfl λS h F=>.V 12 [.r 0] rfl (.Z 12 [] rfl F) (.V 8 [] rfl (.Z 12 [] rfl F) (.Z 13 [] rfl F))
def LZ{v0:Event}{v:Int}{r:Int}:we v0 v=some r->aR prog 71 [.agg (Event.row v0),cI v] (rE cI r):=
 have⟨_,H,_,J,_⟩:=Xl;.S func71 rfl ntmps71 results71 rfl λS c F=>.V 17 [.r 0] rfl (.Z 4 [] rfl F) (.V 13 [] rfl (.Z 4 [] rfl F) (.V 9 [] rfl (.Z 4 [] rfl F) (bA λe d=>.BP 28 [.k Cq d,.r 1,.g (.ref 1 0),.g (.ref 1 1)] rfl ⟨λh=>aG.g (gH (m:=1) (sz:=1) underlying210 ⟨_,H,J⟩ rfl rfl rfl (by decide)),aG.g (gH (m:=0) (sz:=1) underlying210 ⟨_,H,J⟩ rfl rfl rfl (by decide))⟩ (lf (.jI (env':=[(41,_),(44,_)]) rfl rfl rfl ⟨.inr (.inl rfl),⟨.inr (.inr ⟨_,_,rfl,rfl⟩),trivial⟩⟩ rfl (λh=>aG.g (dV rfl rfl rfl))) (.BP 9 [.g (.ref 1 2)] rfl (λh=>aG.g (gH (m:=2) (sz:=1) underlying210 ⟨_,H,J⟩ rfl rfl rfl (by decide))) (lf (.jI (env':=[(51,_),(54,_)]) rfl rfl rfl ⟨.inr (.inl rfl),⟨.inr (.inr ⟨_,_,rfl,rfl⟩),trivial⟩⟩ rfl (λh=>aG.g (dV rfl rfl rfl))) (.BP 9 [.g (.ref 1 3)] rfl (λh=>aG.g (gH (m:=3) (sz:=1) underlying210 ⟨_,H,J⟩ rfl rfl rfl (by decide))) (lf (.jI (env':=[(61,_),(64,_)]) rfl rfl rfl ⟨.inr (.inl rfl),⟨.inr (.inr ⟨_,_,rfl,rfl⟩),trivial⟩⟩ rfl (λh=>aG.g (dV rfl rfl rfl))) (.BP 9 [.g (.ref 1 4)] rfl (λh=>aG.g (gH (m:=4) (sz:=1) underlying210 ⟨_,H,J⟩ rfl rfl rfl (by decide))) (lf (.jI (env':=[(71,_),(74,_)]) rfl rfl rfl ⟨.inr (.inl rfl),⟨.inr (.inr ⟨_,_,rfl,rfl⟩),trivial⟩⟩ rfl (λh=>aG.g (dV rfl rfl rfl))) (.V 2 [] rfl (.Z 4 [] rfl F) (bA λy2 f=>bA λy3 a=>.BP 20 [.g (.ref 1 0),.K HG f,.g (.ref 1 1),.K HG a] rfl ⟨λh=>aG.g (gH (m:=1) (sz:=1) underlying210 ⟨_,H,J⟩ rfl rfl rfl (by decide)),aG.g (gH (m:=0) (sz:=1) underlying210 ⟨_,H,J⟩ rfl rfl rfl (by decide))⟩ (lf (.jI (env':=[(88,_),(92,_)]) rfl rfl rfl ⟨.inr (.inl rfl),⟨.inr (.inr ⟨_,_,rfl,rfl⟩),trivial⟩⟩ rfl (λh=>aG.g (dV rfl rfl rfl))) (.V 2 [] rfl (.Z 4 [] rfl F) (bA λy4 q=>.BP 20 [.g (.ref 1 3),.K LY q] rfl (aG.g (gH (m:=3) (sz:=1) underlying210 ⟨_,H,J⟩ rfl rfl rfl (by decide))) (lf (.jI (env':=[(107,_),(110,_)]) rfl rfl rfl ⟨.inr (.inl rfl),⟨.inr (.inr ⟨_,_,rfl,rfl⟩),trivial⟩⟩ rfl (λh=>aG.g (dV rfl rfl rfl))) (.B 4 [] rfl (lf (.jI (env':=[(112,_),(115,_)]) rfl rfl rfl ⟨.inr (.inl rfl),⟨.inr (.inr ⟨_,_,rfl,rfl⟩),trivial⟩⟩ rfl (λh=>aG.g (dV rfl rfl rfl))) (.V 2 [] rfl (.Z 4 [] rfl F) (bA λy5 y=>.AP 13 [.g (.ref 1 2),.K Je y] rfl (aG.g (gH (m:=2) (sz:=1) underlying210 ⟨_,H,J⟩ rfl rfl rfl (by decide))) (.I rfl (.Z 4 [] rfl F) (bA λy6 b=>.AP 12 [.g (.ref 1 4),.K Jf b] rfl (aG.g (gH (m:=4) (sz:=1) underlying210 ⟨_,H,J⟩ rfl rfl rfl (by decide))) (.I rfl (.Z 4 [] rfl F) (.Z 5 [] rfl F))))))))))))))))))))))))
def wY{a:aA}{B:Int}{r:Int}:qa a B=some r->aR prog 75 [.agg (aA.row a),cI B] (rE cI r):=
 .S func75 rfl ntmps75 results75 rfl λS f F=>.A 11 [.r 0] rfl (.lq [1,2] (λH=>[(5,.d (cI H))]) (λ_=>[]) rfl rfl (λH q1 b=>.V 9 [.l a.aH] rfl (aN λc=>.V 14 [.X aj.qI c] rfl (.A 5 [] rfl (.R1 F b)) (aN λe=>.A 7 [.h e] rfl (.zl b))) (.A 5 [] rfl (.R1 F b))))
def yh{a:aA}{B:Int}{r:Int}:uZ a B=some r->aR prog 76 [.agg (aA.row a),cI B] (rE cI r):=
 .S func76 rfl ntmps76 results76 rfl λS f F=>.A 11 [.r 0] rfl (.lq [1,2] (λH=>[(5,.d (cI H))]) (λ_=>[]) rfl rfl (λH q1 b=>.V 9 [.l a.aV] rfl (aN λc=>.V 14 [.x c] rfl (.A 5 [] rfl (.R1 F b)) (aN λe=>.A 7 [.h e] rfl (.zl b))) (.A 5 [] rfl (.R1 F b))))
def z6{a:aA}{B:Int}{r:Bool}:tC a B=some r->aR prog 156 [.agg (aA.row a),cI B] (rE cB r):=
 .S func156 rfl ntmps156 results156 rfl λS f F=>.A 11 [.r 0] rfl (.lq [1,2] (λH=>[(5,.d (cI H))]) (λ_=>[]) rfl rfl (λH q1 b=>.V 9 [.l a.ended] rfl (aN λc=>.V 13 [.x c] rfl (.A 4 [] rfl (.R1 F b)) (aN λe=>.A 7 [.h e] rfl (.zl b))) (.A 5 [] rfl (.R1 F b))))
def L0{a:aA}{B:Int}{r:Bool}:AA a B=some r->aR prog 155 [.agg (aA.row a),cI B] (rE cB r):=
 .S func155 rfl ntmps155 results155 rfl λS i F=>.A 11 [.r 0] rfl (.lq [1,2] (λH=>[(5,.d (cI H))]) (λ_=>[]) rfl rfl (λH q1 b=>.V 9 [.l a.aV] rfl (aN λc=>aN λe=>bA λj f=>.AD 26 [.p 19,.x c,.y e,.K z6 f] rfl (.I rfl (.A 4 [] rfl (.R1 F b)) (aN λg=>.A 7 [.h g] rfl (.zl b)))) (.A 5 [] rfl (.R1 F b))))
def Cr{a:aA}{h:Event}{r:Int}:nh a h=some r->aR prog 73 [.agg (aA.row a),.agg (Event.row h)] (rE cI r):=
 .S func73 rfl ntmps73 results73 rfl λS e F=>bA λy d=>.V 21 [.r 0,.r 1,.k wY d] rfl (.V 6 [] rfl (.Z 4 [] rfl F) (.Z 5 [] rfl F)) (.V 7 [] rfl (.Z 4 [] rfl F) (aN λc=>.V 11 [.X aj.qI c] rfl (.Z 4 [] rfl F) (bA λy2 f=>.V 15 [.K yh f] rfl (.Z 4 [] rfl F) (bA λy3 H=>aN λb=>.B 25 [.K L0 H,.Y aj.qI b] rfl (lf (.jI (env':=[(46,_),(53,_)]) rfl rfl rfl ⟨.inr (.inl rfl),⟨.inr (.inr ⟨_,_,rfl,rfl⟩),trivial⟩⟩ rfl (λi=>aG.g (dV rfl rfl rfl))) (.V 2 [] rfl (.Z 4 [] rfl F) (.Z 5 [] rfl F)))))))
def tM{q:LQ (LQ uA)}{z:LQ uA}{r:Bool}:rV q z=some r->aR prog 158 [au 1 rS q,cS z] (rE cB r):=
 .S func158 rfl ntmps158 results158 rfl λS e F=>.A 10 [] rfl (.lq [0,1] (λa=>[(5,.d (cI a))]) (λ_=>[]) rfl rfl (λa q1 b=>.V 8 [.l q] rfl (aN λc=>.V 12 [.x c] rfl (.A 4 [] rfl (.R1 F b)) (aN λH=>.A 7 [.h H] rfl (.zl b))) (.A 5 [] rfl (.R1 F b))))
def Jg{a:aA}{g:LQ uA}{r:Bool}:xJ a g=some r->aR prog 157 [.agg (aA.row a),cS g] (rE cB r):=
 .S func157 rfl ntmps157 results157 rfl λS i F=>.A 11 [.r 0] rfl (.lq [1,2] (λH=>[(5,.d (cI H))]) (λ_=>[]) rfl rfl (λH q1 b=>.V 9 [.l a.aV] rfl (aN λc=>bA λy e=>.V 14 [.x c,.k tM e] rfl (.A 4 [] rfl (.R1 F b)) (aN λf=>.A 7 [.h f] rfl (.zl b))) (.A 5 [] rfl (.R1 F b))))
def Jh{v0:aA}{v:Event}{r:Int}:tD v0 v=some r->aR prog 74 [.agg (aA.row v0),.agg (Event.row v)] (rE cI r):=
 .S func74 rfl ntmps74 results74 rfl λS l F=>bA λy a=>.V 20 [.r 0,.r 1,.k yh a] rfl (.Z 4 [] rfl F) (bA λy2 f=>.V 9 [.k z6 f] rfl (.Z 4 [] rfl F) (aN λc=>.V 23 [.x c,.r 2] rfl (bA λy3 e=>.V 7 [.k Jg e] rfl (.Z 4 [] rfl F) (.Z 6 [] rfl F)) (.V 5 [] rfl (bA λy4 q=>.V 9 [.k tM q] rfl (.Z 4 [] rfl F) (.Z 6 [] rfl F)) (.V 5 [] rfl (bA λy5 i=>.V 8 [.k tM i] rfl (.Z 4 [] rfl F) (.Z 6 [] rfl F)) (.V 5 [] rfl (bA λy6 j=>.V 9 [.k tM j] rfl (.Z 4 [] rfl F) (.Z 6 [] rfl F)) (.sj (ι:=Bool) [3,6,23] (λh=>[(53,.d (cB h))]) (λ_=>[]) (λs=>oD v0 v y s=some r) (λh=>.I rfl (.AP 9 [.b (((nth v0.aV y.toNat).br)==(v.kind==10))] rfl (aG.g (Wo rfl underlying4 rfl)) (.I rfl (.Z 4 [] rfl F) (.Z 6 [] rfl F))) (.sj (ι:=Bool) [3,6] (λH=>[(62,.d (cB H))]) (λ_=>[]) (λs=>oC v0 v y s=some r) (λH=>.I rfl (.AP 9 [.b (((nth v0.aV y.toNat).family)==(v.kind==12))] rfl (aG.g (Wo rfl underlying4 rfl)) (.I rfl (.Z 4 [] rfl F) (.Z 6 [] rfl F))) (.Z 6 [] rfl F)) (λE=>.V 5 [] rfl (.A 1 [] rfl (.zi E (v.kind==12))) (.A 4 [] rfl (.zi E (v.kind==13)))))) (λo=>.V 5 [] rfl (.A 1 [] rfl (.zi o (v.kind==10))) (.A 4 [] rfl (.zi o (v.kind==11))))))))))
def Ji{a:aA}{h:Event}{L:Int}{r:Int}:qx a h L=some r->aR prog 28 [.agg (aA.row a),.agg (Event.row h),cI L] (rE cI r):=
 have⟨_,H,_,J,_⟩:=Xl;.S func28 rfl ntmps28 results28 rfl λS e F=>bA λy d=>.V 19 [.r 0,.r 1,.k LZ d] rfl (.Z 5 [] rfl F) (bA λy2 f=>.AP 9 [.k Cq f,.b (nth y2 0)] rfl (aG.g (WH (m:=0) underlying210 one_4 H J rfl rfl rfl (by decide) rfl)) (.I rfl (bA λy3 c=>.Z 7 [.k Cr c] rfl F) (bA λy4 q=>.Z 8 [.k Jh q] rfl F)))
def Cs{q:LQ (LQ uA)}{z:LQ uA}{r:(LQ (LQ uA))}:wj q z=some r->aR prog 159 [au 1 rS q,cS z] (rE (au 1 rS) r):=
 have⟨_,V,_,f,_⟩:=Qv;.S func159 rfl ntmps159 results159 rfl λS w F=>.A 9 [] rfl (.bj (ι:=Int) [0,1] (λH=>[(5,.d (cI H))]) (λ_=>[]) (λs=>qb q z s=some r) (λH=>aN λj=>aN λk=>aN λo=>aN λp=>aN λt=>.AP 26 [.n (.dA 1 (([]:LQ (LQ uA)).map rS) 0) (GW ([]:LQ (LQ uA)).length),.d (au 1 rS (q.take H.toNat)),.a k,.m [z],.a o,.d (au 1 rS (q.drop H.toNat)),.a t] rfl ⟨aG.g (vP (l:=q) (row:=rS) underlying216 V f rfl rfl rfl p),aG.g (Gp (l:=q) (row:=rS) underlying216 V f rfl rfl rfl j),.e (Ur underlying216 V f) rfl⟩ (.R F)) (λB u=>.lq [0,1] (λc=>[(5,.d (cI c))]) (λ_=>[]) rfl rfl (λc q1 i=>aN λv=>.AP 16 [.l q,.y v,.b (mr (nth q c.toNat) z)] rfl (λC=>aG.g (Xi rfl rfl)) (.I rfl (aN λx=>.A 8 [.h x] rfl (.zl i)) (.A 1 [] rfl (GO i (.zi u c)))))))
def wZ{q:LQ (LQ uA)}{z:LQ uA}{r:(LQ (LQ uA))}:qc q z=some r->aR prog 160 [au 1 rS q,cS z] (rE (au 1 rS) r):=
 .S func160 rfl ntmps160 results160 rfl λS o F=>.A 14 [] rfl (lf (.tok (i:=5) (e:=9) (sz:=1) rfl) (.lq [0,1] (λ⟨b,H⟩=>[(5,.dA 1 (b.map rS) 0),(6,.d (cI H))]) (λ⟨b,H⟩=>[.t 0 (GW b.length)]) rfl rfl (λ⟨b,H⟩ q1 c=>.V 8 [.l q] rfl (aN λf=>.V 12 [.x f] rfl (aN λg=>aN λj=>aN λk=>.A 16 [.x g,.m [nth q H.toNat],.a j,.h k] rfl (.zl c)) (aN λn=>.A 7 [.h n] rfl (.zl c))) (.A 6 [] rfl (.R1 F c)))))
def Fq{b:Sub}{h:Event}{r:Sub}:qd b h=some r->aR prog 77 [.agg (Sub.row b),.agg (Event.row h)] (rE (λr=>.agg (Sub.row r)) r):=
 .S func77 rfl ntmps77 results77 rfl λS a F=>.V 18 [.r 0,.r 1,.r 2] rfl (.Z 15 [] rfl F) (.V 5 [] rfl (bA λy d=>.Z 15 [.k Cs d] rfl F) (.V 5 [] rfl (bA λy2 f=>.Z 15 [.k wZ f] rfl F) (.V 5 [] rfl (.Z 12 [] rfl F) (.V 5 [] rfl (bA λy3 H=>.Z 15 [.k Cs H] rfl F) (.V 5 [] rfl (bA λy4 q=>.Z 15 [.k wZ q] rfl F) (.V 5 [] rfl (.Z 10 [] rfl F) (.V 5 [] rfl (.Z 10 [] rfl F) (.V 5 [] rfl (.Z 10 [] rfl F) (.V 5 [] rfl (.Z 10 [] rfl F) (.Z 7 [] rfl F))))))))))
def Jj{v0:aA}{h:Event}{r:aA}:jC v0 h=some r->aR prog 29 [.agg (aA.row v0),.agg (Event.row h)] (rE (λr=>.agg (aA.row r)) r):=
 have⟨_,c,N,j,q⟩:=I1;have⟨_,Y,M,_,_⟩:=K8;have⟨_,n,u,J,H⟩:=DG;have⟨_,b,C,z,T⟩:=DH;.S func29 rfl ntmps29 results29 rfl λS hS F=>.A 7 [.r 0,.r 1,.r 2] rfl (lf (.tokP (e:=214) (sz:=6)) (lf (.tokP (e:=218) (sz:=8)) (lf (.tokP (e:=3) (sz:=1)) (aN λD=>aN λE=>aN λG=>.op 14 [3,7,11,13] [[],[.t 0 ⟨214,6,(([]:LQ aj)++v0.aH).length,some ((([]:LQ aj)++v0.aH).map aj.qI)⟩],[],[.t 0 ⟨214,6,(([]:LQ aj)++v0.aH).length,some ((([]:LQ aj)++v0.aH).map aj.qI)⟩,.t 1 (Sub.Sv (([]:LQ Sub)++v0.aV))],[],[],[],[.t 0 ⟨214,6,(([]:LQ aj)++v0.aH).length,some ((([]:LQ aj)++v0.aH).map aj.qI)⟩,.t 1 (Sub.Sv (([]:LQ Sub)++v0.aV)),.t 2 ⟨3,1,(([]:LQ Int)++v0.ended).length,some ((([]:LQ Int)++v0.ended).map rI)⟩],[.O (.row 108 [.d b7,.d b7,.d b7])],[.O (.row 108 [.d b7,.d b7,.d b7]),.t 0 ⟨214,6,(([]:LQ aj)++v0.aH).length,some ((([]:LQ aj)++v0.aH).map aj.qI)⟩],[],[.O (.row 108 [.d b7,.d b7,.d b7]),.t 0 ⟨214,6,(([]:LQ aj)++v0.aH).length,some ((([]:LQ aj)++v0.aH).map aj.qI)⟩,.t 1 (Sub.Sv (([]:LQ Sub)++v0.aV))],[],[],[],[.O (.row 108 [.d b7,.d b7,.d b7]),.t 0 ⟨214,6,(([]:LQ aj)++v0.aH).length,some ((([]:LQ aj)++v0.aH).map aj.qI)⟩,.t 1 (Sub.Sv (([]:LQ Sub)++v0.aV)),.t 2 ⟨3,1,(([]:LQ Int)++v0.ended).length,some ((([]:LQ Int)++v0.ended).map rI)⟩]] (lf (.g (x:=.d (.e0 6)) [0,8] ⟨⟨_,rfl,(J▸bu underlying105 n)⟩,⟨_,rfl,(J▸bu underlying105 n)⟩,trivial⟩ rfl (by kernel_rfl) rfl) (lf (.s (x:=.ref 0 0) (λs=>bn Xt rfl) rfl rfl) (lf (.g (x:=.d (au 6 aj.qI v0.aH)) [0,8] ⟨⟨_,rfl,aG.g (jH Sq rfl rfl rfl)⟩,⟨_,rfl,aG.g (jH Sq rfl rfl rfl)⟩,trivial⟩ rfl (by kernel_rfl) rfl) (lf (.v (x:=.vc 0 (([]:LQ aj)++v0.aH).length) 0 [0,8] ⟨⟨_,_,rfl,rfl,pA (l':=v0.aH) (row:=aj.qI) underlying105 n u J rfl (by rw[H];decide) rfl (.inl rfl) rfl rfl rfl D⟩,⟨_,_,rfl,rfl,pA (l':=v0.aH) (row:=aj.qI) underlying105 n u J rfl (by rw[H];decide) rfl (.inl rfl) rfl rfl rfl D⟩,trivial⟩ rfl (by kernel_rfl) rfl) (lf (.g (x:=.d (.e0 8)) [0,1,8,9] ⟨⟨_,rfl,(z▸bu underlying106 b)⟩,⟨_,rfl,(z▸bu underlying106 b)⟩,⟨_,rfl,(z▸bu underlying106 b)⟩,⟨_,rfl,(z▸bu underlying106 b)⟩,trivial⟩ rfl (by kernel_rfl) rfl) (lf (.s (x:=.ref 0 1) (λs=>bn Xu rfl) rfl rfl) (lf (.g (x:=.d (au 8 Sub.row v0.aV)) [0,1,8,9] ⟨⟨_,rfl,aG.g (jH yM rfl rfl rfl)⟩,⟨_,rfl,aG.g (jH yM rfl rfl rfl)⟩,⟨_,rfl,aG.g (jH yM rfl rfl rfl)⟩,⟨_,rfl,aG.g (jH yM rfl rfl rfl)⟩,trivial⟩ rfl (by kernel_rfl) rfl) (lf (.v (x:=.vc 1 (([]:LQ Sub)++v0.aV).length) 1 [1,9] ⟨⟨_,_,rfl,rfl,pA (l':=v0.aV) (row:=Sub.row) underlying106 b C z rfl (by rw[T];decide) rfl (.inl rfl) rfl rfl rfl E⟩,⟨_,_,rfl,rfl,pA (l':=v0.aV) (row:=Sub.row) underlying106 b C z rfl (by rw[T];decide) rfl (.inl rfl) rfl rfl rfl E⟩,trivial⟩ rfl (by kernel_rfl) rfl) (lf (.g (x:=.d (.e0 1)) [0,1,3,8,9,11] ⟨⟨_,rfl,(j▸bu underlying67 c)⟩,⟨_,rfl,(j▸bu underlying67 c)⟩,⟨_,rfl,(j▸bu underlying67 c)⟩,⟨_,rfl,(j▸bu underlying67 c)⟩,⟨_,rfl,(j▸bu underlying67 c)⟩,⟨_,rfl,(j▸bu underlying67 c)⟩,trivial⟩ rfl (by kernel_rfl) rfl) (lf (.s (x:=.ref 0 2) (λs=>bn Xv rfl) rfl rfl) (lf (.g (x:=.d (au 1 rI v0.ended)) [0,1,3,8,9,11] ⟨⟨_,rfl,aG.g (jH DI rfl rfl rfl)⟩,⟨_,rfl,aG.g (jH DI rfl rfl rfl)⟩,⟨_,rfl,aG.g (jH DI rfl rfl rfl)⟩,⟨_,rfl,aG.g (jH DI rfl rfl rfl)⟩,⟨_,rfl,aG.g (jH DI rfl rfl rfl)⟩,⟨_,rfl,aG.g (jH DI rfl rfl rfl)⟩,trivial⟩ rfl (by kernel_rfl) rfl) (lf (.v (x:=.vc 2 (([]:LQ Int)++v0.ended).length) 2 [3,11] ⟨⟨_,_,rfl,rfl,pA (l':=v0.ended) (row:=rI) underlying67 c N j rfl (by rw[q];decide) rfl (.inl rfl) rfl rfl rfl G⟩,⟨_,_,rfl,rfl,pA (l':=v0.ended) (row:=rI) underlying67 c N j rfl (by rw[q];decide) rfl (.inl rfl) rfl rfl rfl G⟩,trivial⟩ rfl (by kernel_rfl) rfl) (lf (.s (x:=.agg [.vc 0 (([]:LQ aj)++v0.aH).length,.vc 1 (([]:LQ Sub)++v0.aV).length,.vc 2 (([]:LQ Int)++v0.ended).length]) (λs=>GC Xw Y M rfl rfl) rfl rfl) (lf (.v (x:=.ref 3 0) 3 [0,1,3,7] ⟨⟨_,_,rfl,rfl,nf Lf rfl⟩,⟨_,_,rfl,rfl,nf Lf rfl⟩,⟨_,_,rfl,rfl,nf Lf rfl⟩,⟨_,_,rfl,rfl,nf Lf rfl⟩,trivial⟩ rfl (by kernel_rfl) rfl) (lf (.nil rfl) (.V 14 [] rfl (aN λP=>.BP 21 [.d (au 6 aj.qI ([(⟨h.ah,h.at_,h.value,(h.name==([112,114,101,112,97,105,100]:LQ uA)),false,([]:LQ Int)⟩:aj)]:LQ aj)),.O aj.qI P] rfl (zd.le (pV underlying105 n J u rfl rfl rfl rfl rfl) (eB.d (.sl ⟨⟨.aW _,.aW _,.aW _,.aW _,.aW _,.nil0 1,trivial⟩,trivial⟩))) (lf (.freezeCell (l:=(([]:LQ aj)++v0.aH)++([(⟨h.ah,h.at_,h.value,(h.name==([112,114,101,112,97,105,100]:LQ uA)),false,([]:LQ Int)⟩:aj)]:LQ aj)) (row:=aj.qI) 3 0 rfl rfl rfl) (lf (.freezeCell (l:=([]:LQ Sub)++v0.aV) (row:=Sub.row) 3 1 rfl rfl rfl) (lf (.freezeCell (l:=([]:LQ Int)++v0.ended) (row:=rI) 3 2 rfl rfl rfl) (.Z 3 [] rfl F))))) (.V 5 [] rfl (bA λy Q=>aN λR=>aN λU=>.BP 15 [.p 8,.k wY Q,.g (.vp 0 (([]:LQ aj)++v0.aH).length y.toNat 0),.w 5 (pS [.t 0 ⟨214,6,(([]:LQ aj)++v0.aH).length,some (((([]:LQ aj)++v0.aH).set y.toNat (⟨(nth (([]:LQ aj)++v0.aH) y.toNat).id,(nth (([]:LQ aj)++v0.aH) y.toNat).since,(nth (([]:LQ aj)++v0.aH) y.toNat).anchor,(nth (([]:LQ aj)++v0.aH) y.toNat).jN,true,([]:LQ Int)⟩:aj)).map aj.qI)⟩])] rfl ⟨.e (BI (l:=([]:LQ aj)++v0.aH) (row:=aj.qI) (a:=(⟨(nth (([]:LQ aj)++v0.aH) y.toNat).id,(nth (([]:LQ aj)++v0.aH) y.toNat).since,(nth (([]:LQ aj)++v0.aH) y.toNat).anchor,(nth (([]:LQ aj)++v0.aH) y.toNat).jN,true,([]:LQ Int)⟩:aj)) rfl rfl U rfl rfl sz_4 rfl (zae rfl) rfl) rfl,aG.g (kT (l:=([]:LQ aj)++v0.aH) (row:=aj.qI) (i:=y) underlying105 n J rfl rfl rfl R),(show dB _ _=true by kernel_rfl)⟩ (lf (.freezeCell (l:=(([]:LQ aj)++v0.aH).set y.toNat (⟨(nth (([]:LQ aj)++v0.aH) y.toNat).id,(nth (([]:LQ aj)++v0.aH) y.toNat).since,(nth (([]:LQ aj)++v0.aH) y.toNat).anchor,(nth (([]:LQ aj)++v0.aH) y.toNat).jN,true,([]:LQ Int)⟩:aj)) (row:=aj.qI) 3 0 rfl rfl rfl) (lf (.freezeCell (l:=([]:LQ Sub)++v0.aV) (row:=Sub.row) 3 1 rfl rfl rfl) (lf (.freezeCell (l:=([]:LQ Int)++v0.ended) (row:=rI) 3 2 rfl rfl rfl) (.Z 3 [] rfl F))))) (.V 5 [] rfl (aN λW=>.BP 20 [.B (.d (.agg (Sub.row (⟨h.sub,h.ah,h.at_,h.name,([]:LQ (LQ uA)),([]:LQ (LQ uA)),false,false⟩:Sub)))),.m [(⟨h.sub,h.ah,h.at_,h.name,([]:LQ (LQ uA)),([]:LQ (LQ uA)),false,false⟩:Sub)],.o W] rfl (aG.g (aG.le (sr Xx b C rfl rfl) (eB.d (.agg ⟨.aW _,.aW _,.aW _,.aW _,.nil 1,.nil 1,.aW _,.aW _,trivial⟩)))) (lf (.freezeCell (l:=([]:LQ aj)++v0.aH) (row:=aj.qI) 3 0 rfl rfl rfl) (lf (.freezeCell (l:=(([]:LQ Sub)++v0.aV)++([(⟨h.sub,h.ah,h.at_,h.name,([]:LQ (LQ uA)),([]:LQ (LQ uA)),false,false⟩:Sub)]:LQ Sub)) (row:=Sub.row) 3 1 rfl rfl rfl) (lf (.freezeCell (l:=([]:LQ Int)++v0.ended) (row:=rI) 3 2 rfl rfl rfl) (.Z 3 [] rfl F))))) (.sj (ι:=Bool) [2,3,4,5] (λK=>[(90,.d (cB K))]) (λ_=>[]) (λs=>kX v0 h s=some r) (λK=>.I rfl (.B 2 [] rfl (lf (.freezeCell (l:=([]:LQ aj)++v0.aH) (row:=aj.qI) 3 0 rfl rfl rfl) (lf (.freezeCell (l:=([]:LQ Sub)++v0.aV) (row:=Sub.row) 3 1 rfl rfl rfl) (lf (.freezeCell (l:=([]:LQ Int)++v0.ended) (row:=rI) 3 2 rfl rfl rfl) (.Z 3 [] rfl F))))) (bA λy2 X=>aN λFp=>aN λQ8=>bA λy3 ku=>aN λHL=>aN λL4=>.AP 30 [.k yh X,.p 11,.g (.vp 1 (([]:LQ Sub)++v0.aV).length y2.toNat 0),.f 13 (.d (.agg (Sub.row (nth (([]:LQ Sub)++v0.aV) y2.toNat)))),.k Fq ku,.g (.vp 1 (([]:LQ Sub)++v0.aV).length y2.toNat 0),.w 8 (pS [.t 1 ⟨218,8,(([]:LQ Sub)++v0.aV).length,some (((([]:LQ Sub)++v0.aV).set y2.toNat y3).map Sub.row)⟩])] rfl ⟨.e (BI (l:=([]:LQ Sub)++v0.aV) (row:=Sub.row) (a:=y3) rfl rfl L4 rfl rfl Ld rfl (zae rfl) rfl) rfl,aG.g (kT (l:=([]:LQ Sub)++v0.aV) (row:=Sub.row) (i:=y2) underlying106 b z rfl rfl rfl HL),aG.g (kg (l:=([]:LQ Sub)++v0.aV) (row:=Sub.row) (cs:=(Sub.row (nth (([]:LQ Sub)++v0.aV) y2.toNat))) Sr Ld rfl rfl Q8 (zae rfl) rfl),aG.g (kT (l:=([]:LQ Sub)++v0.aV) (row:=Sub.row) (i:=y2) underlying106 b z rfl rfl rfl Fp),(show dB _ _=true by kernel_rfl)⟩ (.I rfl (aN λL5=>.B 13 [.m [h.sub],.o L5] rfl (lf (.freezeCell (l:=([]:LQ aj)++v0.aH) (row:=aj.qI) 3 0 rfl rfl rfl) (lf (.freezeCell (l:=(([]:LQ Sub)++v0.aV).set y2.toNat y3) (row:=Sub.row) 3 1 rfl rfl rfl) (lf (.freezeCell (l:=(([]:LQ Int)++v0.ended)++([h.sub]:LQ Int)) (row:=rI) 3 2 rfl rfl rfl) (.Z 3 [] rfl F))))) (.B 4 [] rfl (lf (.freezeCell (l:=([]:LQ aj)++v0.aH) (row:=aj.qI) 3 0 rfl rfl rfl) (lf (.freezeCell (l:=(([]:LQ Sub)++v0.aV).set y2.toNat y3) (row:=Sub.row) 3 1 rfl rfl rfl) (lf (.freezeCell (l:=([]:LQ Int)++v0.ended) (row:=rI) 3 2 rfl rfl rfl) (.Z 3 [] rfl F)))))))) (λL=>.V 5 [] rfl (.A 1 [] rfl (.zi L (h.kind==14))) (.A 4 [] rfl (.zi L (h.kind==15)))))))))))))))))))))))))))
def Jk{a:LQ Event}{r:Int×Int}:tE a=some r->aR prog 10 [au 7 Event.row a] (rE (λr=>.dp [cI r.1,cI r.2]) r):=
 have⟨_,Y,i,_,_⟩:=K8;.S func10 rfl ntmps10 results10 rfl λS v F=>.V 12 [.l a] rfl (.Z 5 [] rfl F) (.AP 17 [.B (.d (.agg (aA.row (⟨([]:LQ aj),([]:LQ Sub),([]:LQ Int)⟩:aA)))),.r 0] rfl (aG.g (aG.le (sr Xw Y i rfl rfl) (eB.d (.agg ⟨.nil 6,.nil 8,.nil 1,trivial⟩)))) (.lq [0,4] (λ⟨H,b,c,e,n⟩=>[(5,.d (cI H)),(6,.d (cI b))]) (λ⟨H,b,c,e,n⟩=>[.o 0 (.row 108 [.d (au 6 aj.qI c),.d (au 8 Sub.row e),.d (au 1 rI n)])]) rfl rfl (λ⟨H,b,c,e,n⟩ q1 f=>.V 8 [.l a] rfl (aN λj=>bA λy m=>.AD 21 [.p 8,.x j,.k Ji m] rfl (.I rfl (.A 7 [] rfl (.R1 F f)) (aN λq=>bA λy2 s=>aN λt=>aN λu=>.AD 26 [.p 6,.x q,.k Jj s,.x t,.h u] rfl (.zl f)))) (.A 6 [] rfl (.R1 F f)))))
def L6{a:LQ Event}{H:LQ (LQ uA)}{r:Bool}:wk a H=some r->aR prog 4 [au 7 Event.row a,au 1 (rSl 1 eW) H] (rE cB r):=
 .S func4 rfl ntmps4 results4 rfl λS j F=>.V 16 [.l a,.l H] rfl (.Z 4 [] rfl F) (.A 6 [] rfl (.bj (ι:=Unit) [0] (λ_=>[]) (λ_=>[]) (λs=>qe a=some r) (λ_=>bA λy e=>.Z 16 [.k Jk e] rfl F) (λo i=>.lq [0,1] (λb=>[(5,.d (cI b))]) (λ_=>[]) rfl rfl (λb q1 c=>.V 8 [.l H] rfl (aN λf=>.AP 12 [.d (.ro ((rSl 1 eW) (nth H b.toNat))),.l (nth H b.toNat)] rfl (s23.ix rfl rfl rfl f) (.I rfl (.A 4 [] rfl (.R1 F c)) (aN λg=>.A 7 [.h g] rfl (.zl c)))) (.A 1 [] rfl (GO c (.zi i ())))))))
def HM{Q:Int}{r:Int}:rv Q=some r->aR prog 381 [cK .u64 Q] (rE cI r):=
 .S func381 rfl ntmps381 results381 rfl λS H F=>aN λc=>aN λh=>.AP 16 [.d (cK .u64 (Int.fdiv Q (2 ^ (min (Int.toNat (1)) 64)))),.i (IntKind.wrap .i64 (Int.fdiv Q (2 ^ (min (Int.toNat (1)) 64)))),.d (cK .u64 (Gq .u64 Q 1)),.i (IntKind.wrap .i64 (Gq .u64 Q 1)),.i (-(IntKind.wrap .i64 (Gq .u64 Q 1))),.i (M7 .i64 (IntKind.wrap .i64 (Int.fdiv Q (2 ^ (min (Int.toNat (1)) 64)))) (-(IntKind.wrap .i64 (Gq .u64 Q 1))))] rfl ⟨aG.g (q_xor rfl rfl),aG.g (q_negI rfl h.1 h.2),aG.g (qG underlying470 underlying3 rfl rfl),aG.g (q_and rfl rfl),aG.g (qG underlying470 underlying3 rfl rfl),aG.g (Wn (a:=Q) (b:=1) rfl rfl c rfl)⟩ (.R F)
def HN{e:LQ uA}{r:Int×Int×Int}:ry e=some r->aR prog 238 [au 1 eW e] (rE (λr=>.dp [cI r.1,cI r.2.1,cI r.2.2]) r):=
 .S func238 rfl ntmps238 results238 rfl λS t F=>.A 16 [] rfl (.lq [0] (λ⟨J,H⟩=>[(5,.d (cK .u64 J)),(6,.d (cI H))]) (λ_=>[]) rfl rfl (λ⟨J,H⟩ q1 f=>.V 8 [.l e] rfl (aN λj=>.BP 26 [.x j,.b ((nth e H.toNat) != 1),.b ((nth e H.toNat)==0)] rfl ⟨λi=>aG.g (P6 (a:=nth e H.toNat) (b:=0) rfl rfl),λi=>aG.g (vO (a:=nth e H.toNat) (b:=1) rfl rfl)⟩ (lf (.jI (env':=[(27,_),(29,_)]) rfl rfl rfl ⟨.inr (.inl rfl),⟨.inr (.inr ⟨_,_,rfl,rfl⟩),trivial⟩⟩ rfl (λi=>aG.g (dV rfl rfl rfl))) (.V 2 [] rfl (.A 6 [] rfl (.R1 F f)) (aN λm=>aN λo=>.AP 18 [.c ((nth e H.toNat) &&& 127),.d (cK .u64 (IntKind.wrap .u64 (((nth e H.toNat) &&& 127).toNat:Int))),.h m,.d (cK .u64 (IntKind.wrap .u64 ((IntKind.wrap .u64 (((nth e H.toNat) &&& 127).toNat:Int))*2 ^ (min (7*H).toNat 64)))),.d (cK .u64 (IV .u64 J (IntKind.wrap .u64 ((IntKind.wrap .u64 (((nth e H.toNat) &&& 127).toNat:Int))*2 ^ (min (7*H).toNat 64))))),.b (decide ((nth e H.toNat)<128))] rfl ⟨aG.g (Dq (a:=nth e H.toNat) (b:=128) rfl rfl),aG.g (q_or rfl rfl),aG.g (MM (a:=IntKind.wrap .u64 (((nth e H.toNat) &&& 127).toNat:Int)) (b:=7*H) rfl rfl o rfl),aG.g (qG (n:=(((nth e H.toNat) &&& 127).toNat:Int)) underlying5 underlying470 rfl rfl),aG.g (sv (a:=nth e H.toNat) (b:=127) rfl rfl)⟩ (.I rfl (bA λy p=>aN λq=>.A 10 [.k HM p,.h q] rfl (.R1 F f)) (aN λs=>.A 7 [.h s] rfl (.zl f))))))) (.A 7 [] rfl (.R1 F f))))
def HO{H:LQ uA}{w:Int}{r:(LQ uA)}:rz H w=some r->aR prog 239 [au 1 eW H,cI w] (rE (au 1 eW) r):=
 have⟨_,A,c,f,j⟩:=Fg;.S func239 rfl ntmps239 results239 rfl λS p F=>aN λk=>aN λm=>aN λo=>.AP 30 [.l H,.h k,.n (.vc 0 (List.replicate ((H.length:Int) - w).toNat 0:LQ uA).length) ⟨5,1,(List.replicate ((H.length:Int) - w).toNat 0:LQ uA).length,some ((List.replicate ((H.length:Int) - w).toNat 0:LQ uA).map eW)⟩,.l H,.l H,.d (au 1 eW ((H.take ((H.length:Int)).toNat).drop w.toNat)),.t (.d (cI ((min ((H.take ((H.length:Int)).toNat).drop w.toNat).length (List.replicate ((H.length:Int) - w).toNat 0:LQ uA).length:Nat):Int))) 0 ⟨5,1,(List.replicate ((H.length:Int) - w).toNat 0:LQ uA).length,some ((((H.take ((H.length:Int)).toNat).drop w.toNat).take (min ((H.take ((H.length:Int)).toNat).drop w.toNat).length (List.replicate ((H.length:Int) - w).toNat 0:LQ uA).length)++(List.replicate ((H.length:Int) - w).toNat 0:LQ uA).drop (min ((H.take ((H.length:Int)).toNat).drop w.toNat).length (List.replicate ((H.length:Int) - w).toNat 0:LQ uA).length)).map eW)⟩] rfl ⟨.e (R9 (l:=(List.replicate ((H.length:Int) - w).toNat 0:LQ uA)) (l':=(H.take ((H.length:Int)).toNat).drop w.toNat) (row:=eW) underlying42 A f rfl rfl rfl rfl) rfl,aG.g (Nh (l:=H) (row:=eW) underlying42 A f rfl rfl rfl rfl rfl o),.e (R8 (row:=eW) (a:=(H.length:Int) - w) (b:=(H.length:Int) - w) (a0:=0) underlying42 A c f rfl (by rw[j];decide) rfl rfl rfl m) rfl⟩ (lf (.tw (l:=((H.take ((H.length:Int)).toNat).drop w.toNat).take (min ((H.take ((H.length:Int)).toNat).drop w.toNat).length (List.replicate ((H.length:Int) - w).toNat 0:LQ uA).length)++(List.replicate ((H.length:Int) - w).toNat 0:LQ uA).drop (min ((H.take ((H.length:Int)).toNat).drop w.toNat).length (List.replicate ((H.length:Int) - w).toNat 0:LQ uA).length)) (row:=eW) (i:=4) rfl rfl) (.R F))
def dt{a:LQ uA}{r:Int×(LQ uA)×Int}:cH a=some r->aR prog 126 [au 1 eW a] (rE (λr=>.dp [cI r.1,au 1 eW r.2.1,cI r.2.2]) r):=
 .S func126 rfl ntmps126 results126 rfl λS h F=>bA λy d=>.V 24 [.k HN d] rfl (.Z 7 [] rfl F) (bA λy2 f=>.Z 11 [.k HO f] rfl F)
def Jl{a:LQ uA}{r:Int}:oe a=some r->aR prog 127 [au 1 eW a] (rE (cK .u32) r):=
 .S func127 rfl ntmps127 results127 rfl λS f F=>.A 16 [.l a] rfl (.lq [6,7] (λ⟨m,b⟩=>[(3,.d (cK .u32 m)),(8,.d (cI b))]) (λ_=>[]) rfl rfl (λ⟨m,b⟩ q1 H=>.V 5 [] rfl (aN λc=>aN λe=>.AP 27 [.x c,.d (cK .u32 (IntKind.wrap .u32 ((nth a b.toNat).toNat:Int))),.d (cK .u32 (M7 .u32 m (IntKind.wrap .u32 ((nth a b.toNat).toNat:Int)))),.d (cK .u32 (IntKind.wrap .u32 ((M7 .u32 m (IntKind.wrap .u32 ((nth a b.toNat).toNat:Int)))*16777619))),.h e] rfl ⟨aG.g (q_mul rfl rfl rfl),aG.g (q_xor rfl rfl),aG.g (qG (n:=((nth a b.toNat).toNat:Int)) underlying5 underlying293 rfl rfl)⟩ (.zl H)) (.A 6 [] rfl (.R1 F H))))
def Ed{v0:LQ uA}{r:Int×Int×Int}:sG v0=some r->aR prog 51 [au 1 eW v0] (rE (λr=>.dp [cI r.1,cI r.2.1,cI r.2.2]) r):=
 have⟨_,A,_,c,_⟩:=Fg;.S func51 rfl ntmps51 results51 rfl λS M F=>aN λe=>bA λy f=>.AP 38 [.l v0,.i (if 10<(v0.length:Int)then 10 else(v0.length:Int)),.l v0,.i (if 10<(v0.length:Int)then 10 else(v0.length:Int)),.d (au 1 eW (v0.take ((if 10<(v0.length:Int)then 10 else(v0.length:Int))).toNat)),.k dt f] rfl ⟨aG.g (Sa (l:=v0) (row:=eW) underlying42 A c rfl rfl rfl rfl e),aG.g (W9 rfl rfl),aG.g (W9 rfl rfl)⟩ (.I rfl (.Z 7 [] rfl F) (.V 6 [] rfl (.Z 6 [] rfl F) (.V 6 [] rfl (.Z 6 [] rfl F) (aN λj=>aN λm=>aN λo=>.V 22 [.l (v0.take ((if 10<(v0.length:Int)then 10 else(v0.length:Int))).toNat),.l y.2.1,.h j,.l v0,.h m,.h o] rfl (.Z 6 [] rfl F) (aN λq=>aN λs=>aN λt=>aN λu=>aN λQ=>aN λv=>aN λL=>aN λw=>aN λY=>aN λz=>aN λB=>aN λC=>aN λD=>aN λE=>bA λy2 G=>.AP 50 [.p 30,.x q,.d (cK .u32 (IntKind.wrap .u32 ((nth v0 (((v0.take ((if 10<(v0.length:Int)then 10 else(v0.length:Int))).toNat).length:Int) - (y.2.1.length:Int)).toNat).toNat:Int))),.d (cK .u32 (IntKind.wrap .u32 ((IntKind.wrap .u32 ((nth v0 (((v0.take ((if 10<(v0.length:Int)then 10 else(v0.length:Int))).toNat).length:Int) - (y.2.1.length:Int)).toNat).toNat:Int))*2 ^ (min (Int.toNat (24)) 32)))),.h t,.x u,.d (cK .u32 (IntKind.wrap .u32 ((nth v0 ((((v0.take ((if 10<(v0.length:Int)then 10 else(v0.length:Int))).toNat).length:Int) - (y.2.1.length:Int))+1).toNat).toNat:Int))),.d (cK .u32 (IntKind.wrap .u32 ((IntKind.wrap .u32 ((nth v0 ((((v0.take ((if 10<(v0.length:Int)then 10 else(v0.length:Int))).toNat).length:Int) - (y.2.1.length:Int))+1).toNat).toNat:Int))*2 ^ (min (Int.toNat (16)) 32)))),.d (cK .u32 (IV .u32 (IntKind.wrap .u32 ((IntKind.wrap .u32 ((nth v0 (((v0.take ((if 10<(v0.length:Int)then 10 else(v0.length:Int))).toNat).length:Int) - (y.2.1.length:Int)).toNat).toNat:Int))*2 ^ (min (Int.toNat (24)) 32))) (IntKind.wrap .u32 ((IntKind.wrap .u32 ((nth v0 ((((v0.take ((if 10<(v0.length:Int)then 10 else(v0.length:Int))).toNat).length:Int) - (y.2.1.length:Int))+1).toNat).toNat:Int))*2 ^ (min (Int.toNat (16)) 32))))),.h v,.x L,.d (cK .u32 (IntKind.wrap .u32 ((nth v0 ((((v0.take ((if 10<(v0.length:Int)then 10 else(v0.length:Int))).toNat).length:Int) - (y.2.1.length:Int))+2).toNat).toNat:Int))),.d (cK .u32 (IntKind.wrap .u32 ((IntKind.wrap .u32 ((nth v0 ((((v0.take ((if 10<(v0.length:Int)then 10 else(v0.length:Int))).toNat).length:Int) - (y.2.1.length:Int))+2).toNat).toNat:Int))*2 ^ (min (Int.toNat (8)) 32)))),.d (cK .u32 (IV .u32 (IV .u32 (IntKind.wrap .u32 ((IntKind.wrap .u32 ((nth v0 (((v0.take ((if 10<(v0.length:Int)then 10 else(v0.length:Int))).toNat).length:Int) - (y.2.1.length:Int)).toNat).toNat:Int))*2 ^ (min (Int.toNat (24)) 32))) (IntKind.wrap .u32 ((IntKind.wrap .u32 ((nth v0 ((((v0.take ((if 10<(v0.length:Int)then 10 else(v0.length:Int))).toNat).length:Int) - (y.2.1.length:Int))+1).toNat).toNat:Int))*2 ^ (min (Int.toNat (16)) 32)))) (IntKind.wrap .u32 ((IntKind.wrap .u32 ((nth v0 ((((v0.take ((if 10<(v0.length:Int)then 10 else(v0.length:Int))).toNat).length:Int) - (y.2.1.length:Int))+2).toNat).toNat:Int))*2 ^ (min (Int.toNat (8)) 32))))),.h Y,.x z,.d (cK .u32 (IntKind.wrap .u32 ((nth v0 ((((v0.take ((if 10<(v0.length:Int)then 10 else(v0.length:Int))).toNat).length:Int) - (y.2.1.length:Int))+3).toNat).toNat:Int))),.d (cK .u32 (IV .u32 (IV .u32 (IV .u32 (IntKind.wrap .u32 ((IntKind.wrap .u32 ((nth v0 (((v0.take ((if 10<(v0.length:Int)then 10 else(v0.length:Int))).toNat).length:Int) - (y.2.1.length:Int)).toNat).toNat:Int))*2 ^ (min (Int.toNat (24)) 32))) (IntKind.wrap .u32 ((IntKind.wrap .u32 ((nth v0 ((((v0.take ((if 10<(v0.length:Int)then 10 else(v0.length:Int))).toNat).length:Int) - (y.2.1.length:Int))+1).toNat).toNat:Int))*2 ^ (min (Int.toNat (16)) 32)))) (IntKind.wrap .u32 ((IntKind.wrap .u32 ((nth v0 ((((v0.take ((if 10<(v0.length:Int)then 10 else(v0.length:Int))).toNat).length:Int) - (y.2.1.length:Int))+2).toNat).toNat:Int))*2 ^ (min (Int.toNat (8)) 32)))) (IntKind.wrap .u32 ((nth v0 ((((v0.take ((if 10<(v0.length:Int)then 10 else(v0.length:Int))).toNat).length:Int) - (y.2.1.length:Int))+3).toNat).toNat:Int)))),.h B,.h C,.h D,.d (au 1 eW ((v0.take (((((v0.take ((if 10<(v0.length:Int)then 10 else(v0.length:Int))).toNat).length:Int) - (y.2.1.length:Int))+4)+y.1).toNat).drop ((((v0.take ((if 10<(v0.length:Int)then 10 else(v0.length:Int))).toNat).length:Int) - (y.2.1.length:Int))+4).toNat)),.k Jl G] rfl ⟨aG.g (R5 (l:=v0) (row:=eW) underlying42 A c rfl rfl rfl rfl E),aG.g (q_or rfl rfl),aG.g (qG (n:=((nth v0 ((((v0.take ((if 10<(v0.length:Int)then 10 else(v0.length:Int))).toNat).length:Int) - (y.2.1.length:Int))+3).toNat).toNat:Int)) underlying5 underlying293 rfl rfl),aG.g (q_or rfl rfl),aG.g (MM (a:=IntKind.wrap .u32 ((nth v0 ((((v0.take ((if 10<(v0.length:Int)then 10 else(v0.length:Int))).toNat).length:Int) - (y.2.1.length:Int))+2).toNat).toNat:Int)) (b:=8) rfl rfl w rfl),aG.g (qG (n:=((nth v0 ((((v0.take ((if 10<(v0.length:Int)then 10 else(v0.length:Int))).toNat).length:Int) - (y.2.1.length:Int))+2).toNat).toNat:Int)) underlying5 underlying293 rfl rfl),aG.g (q_or rfl rfl),aG.g (MM (a:=IntKind.wrap .u32 ((nth v0 ((((v0.take ((if 10<(v0.length:Int)then 10 else(v0.length:Int))).toNat).length:Int) - (y.2.1.length:Int))+1).toNat).toNat:Int)) (b:=16) rfl rfl Q rfl),aG.g (qG (n:=((nth v0 ((((v0.take ((if 10<(v0.length:Int)then 10 else(v0.length:Int))).toNat).length:Int) - (y.2.1.length:Int))+1).toNat).toNat:Int)) underlying5 underlying293 rfl rfl),aG.g (MM (a:=IntKind.wrap .u32 ((nth v0 (((v0.take ((if 10<(v0.length:Int)then 10 else(v0.length:Int))).toNat).length:Int) - (y.2.1.length:Int)).toNat).toNat:Int)) (b:=24) rfl rfl s rfl),aG.g (qG (n:=((nth v0 (((v0.take ((if 10<(v0.length:Int)then 10 else(v0.length:Int))).toNat).length:Int) - (y.2.1.length:Int)).toNat).toNat:Int)) underlying5 underlying293 rfl rfl),(show dB _ _=true by kernel_rfl)⟩ (.I rfl (.Z 6 [] rfl F) (aN λJ=>aN λK=>aN λH=>.Z 13 [.h J,.h K,.h H] rfl F)))))))
def ve{H:LQ uA}{c j:Int}{r:(LQ uA)}:kZ H c j=some r->aR prog 52 [au 1 eW H,cI c,cI j] (rE (au 1 eW) r):=
 have⟨_,A,f,k,m⟩:=Fg;.S func52 rfl ntmps52 results52 rfl λS s F=>aN λo=>aN λp=>aN λq=>.AP 27 [.h o,.n (.vc 0 (List.replicate (j-c).toNat 0:LQ uA).length) ⟨5,1,(List.replicate (j-c).toNat 0:LQ uA).length,some ((List.replicate (j-c).toNat 0:LQ uA).map eW)⟩,.d (au 1 eW ((H.take j.toNat).drop c.toNat)),.t (.d (cI ((min ((H.take j.toNat).drop c.toNat).length (List.replicate (j-c).toNat 0:LQ uA).length:Nat):Int))) 0 ⟨5,1,(List.replicate (j-c).toNat 0:LQ uA).length,some ((((H.take j.toNat).drop c.toNat).take (min ((H.take j.toNat).drop c.toNat).length (List.replicate (j-c).toNat 0:LQ uA).length)++(List.replicate (j-c).toNat 0:LQ uA).drop (min ((H.take j.toNat).drop c.toNat).length (List.replicate (j-c).toNat 0:LQ uA).length)).map eW)⟩] rfl ⟨.e (R9 (l:=(List.replicate (j-c).toNat 0:LQ uA)) (l':=(H.take j.toNat).drop c.toNat) (row:=eW) underlying42 A k rfl rfl rfl rfl) rfl,aG.g (Nh (l:=H) (row:=eW) underlying42 A k rfl rfl rfl rfl rfl q),.e (R8 (row:=eW) (a:=j-c) (b:=j-c) (a0:=0) underlying42 A f k rfl (by rw[m];decide) rfl rfl rfl p) rfl⟩ (lf (.tw (l:=((H.take j.toNat).drop c.toNat).take (min ((H.take j.toNat).drop c.toNat).length (List.replicate (j-c).toNat 0:LQ uA).length)++(List.replicate (j-c).toNat 0:LQ uA).drop (min ((H.take j.toNat).drop c.toNat).length (List.replicate (j-c).toNat 0:LQ uA).length)) (row:=eW) (i:=6) rfl rfl) (.R F))
def pN{a:LQ uA}{r:(LQ uA)×(LQ uA)×Int}:jg a=some r->aR prog 19 [au 1 eW a] (rE (λr=>.dp [au 1 eW r.1,au 1 eW r.2.1,cI r.2.2]) r):=
 .S func19 rfl ntmps19 results19 rfl λS H F=>bA λy d=>.V 24 [.k Ed d] rfl (.Z 7 [] rfl F) (bA λy2 f=>bA λy3 h=>.Z 16 [.k ve f,.l a,.k ve h] rfl F)
def gE{h L H:Int}{r:Bool}:er h L H=some r->aR prog 56 [cI h,cI L,cI H] (rE cB r):=
 .S func56 rfl ntmps56 results56 rfl λS a F=>.Z 16 [] rfl F
def rb{v:Head}{r:Int}:eN v=some r->aR prog 50 [.agg (Head.row v)] (rE cI r):=
 .S func50 rfl ntmps50 results50 rfl λS H F=>bA λy d=>bA λy2 f=>.V 21 [.r 0,.k gE d,.K gE f] rfl (.Z 4 [] rfl F) (bA λy3 h=>.V 8 [.k gE h] rfl (.Z 4 [] rfl F) (bA λy4 q=>.V 8 [.k gE q] rfl (.Z 4 [] rfl F) (.Z 6 [] rfl F)))
def Ct{f:LQ uA}{n:Head}{r:Int×Head}:ni f n=some r->bg prog 49 [.d (au 1 eW f),.Da 0 0 4 4] ⟨[.row 179 [.ref 1 0,.ref 1 1,.ref 1 2,.ref 1 3],Head.o80 n],[]⟩ (QE (.d (cI r.1)) ⟨[.row 179 [.ref 1 0,.ref 1 1,.ref 1 2,.ref 1 3],Head.o80 r.2],[]⟩):=
 have⟨_,c,_,t,_⟩:=GQ;.S func49 rfl ntmps49 results49 rfl λS B F=>.AP 11 [.i 4] rfl (aG.g (Nw underlying290 rfl)) (.bj (ι:=LQ uA×Int×Int×Int×Int) [] (λ⟨u,j,D,p,e⟩=>[(0,.d (au 1 eW u))]) (λ⟨u,j,D,p,e⟩=>[.o 1 (.row 80 [.d (cI j),.d (cI D),.d (cI p),.d (cI e)])]) (λs=>nK s.1 s.2.1 s.2.2.1 s.2.2.2.1 s.2.2.2.2=some r) (λ⟨u,j,D,p,e⟩=>.V 7 [.l u] rfl (.A 4 [] rfl (.K F [0,1] [])) (.A 5 [] rfl (.K F [0,1] []))) (λC q=>lf (.Wm) (.A 5 [] rfl (λH=>by
  refine .cond rfl (λh=>?_) (λh=>absurd h (by decide));clear h;exact wh H (bA λy v=>.AP 27 [.g (.ref 0 0),.k dt v] rfl (aG.g (oA (m:=0) underlying290 c t rfl rfl rfl (by decide))) (.I rfl (.A 5 [] rfl (.K F [0,1] [])) (.AP 14 [.i 1] rfl (aG.g (sk (a:=0) (b:=1) rfl rfl (by decide) (by decide))) (lf (.inLoop) (.A 5 [] rfl (λH=>by
   refine .cond rfl (λh=>?_) (λh=>absurd h (by decide));clear h;exact wh H (bA λy2 w=>.AP 27 [.g (.ref 0 1),.k dt w] rfl (aG.g (oA (m:=1) underlying290 c t rfl rfl rfl (by decide))) (.I rfl (.A 5 [] rfl (.K F [0,1] [])) (.AP 14 [.i 2] rfl (aG.g (sk (a:=1) (b:=1) rfl rfl (by decide) (by decide))) (lf (.inLoop) (.A 5 [] rfl (λH=>by
    refine .cond rfl (λh=>?_) (λh=>absurd h (by decide));clear h;exact wh H (bA λy3 x=>.AP 27 [.g (.ref 0 2),.k dt x] rfl (aG.g (oA (m:=2) underlying290 c t rfl rfl rfl (by decide))) (.I rfl (.A 5 [] rfl (.K F [0,1] [])) (.AP 14 [.i 3] rfl (aG.g (sk (a:=2) (b:=1) rfl rfl (by decide) (by decide))) (lf (.inLoop) (.A 5 [] rfl (λH=>by
     refine .cond rfl (λh=>?_) (λh=>absurd h (by decide));clear h;exact wh H (bA λy4 z=>.AP 27 [.g (.ref 0 3),.k dt z] rfl (aG.g (oA (m:=3) underlying290 c t rfl rfl rfl (by decide))) (.I rfl (.A 5 [] rfl (.K F [0,1] [])) (.AP 14 [.i 4] rfl (aG.g (sk (a:=3) (b:=1) rfl rfl (by decide) (by decide))) (lf (.inLoop) (.A 5 [] rfl (λH=>by
      refine .cond rfl (λh=>absurd h (by decide)) (λh=>?_);clear h;exact wh H (.A 1 [] rfl (.zi q (y4.2.1,y.1,y2.1,y3.1,y4.1)))))))))))))))))))))))))))))))
def Fs{L:LQ uA}{r:Head×(LQ uA)×Int}:qf L=some r->aR prog 18 [au 1 eW L] (rE (λr=>.dp [.agg (Head.row r.1),au 1 eW r.2.1,cI r.2.2]) r):=
 have⟨_,h,v,t,_⟩:=GQ;.S func18 rfl ntmps18 results18 rfl λS b F=>bA λy H=>.V 24 [.r 0,.k pN H] rfl (.Z 8 [] rfl F) (bA λy2 f=>.BP 14 [.r 1,.Z (.Da 2 0 4 4) [.O (.row 179 [.ref 1 0,.ref 1 1,.ref 1 2,.ref 1 3])]] rfl (.e (zR underlying290 h t v rfl rfl rfl rfl) rfl) (.cf [2,1] [] (.d (cI y2.1)) [.o 1 (Head.o80 y2.2)] Ct f (.V 7 [] rfl (.Z 8 [] rfl F) (bA λy3 a=>.V 13 [.k rb a] rfl (.Z 8 [] rfl F) (.Z 9 [] rfl F)))))
def w8{H:LQ uA}{r:Int×Int}:mR H=some r->aR prog 128 [au 1 eW H] (rE (λr=>.dp [cI r.1,cI r.2]) r):=
 .S func128 rfl ntmps128 results128 rfl λS e F=>.V 12 [.l H] rfl (.Z 5 [] rfl F) (aN λc=>aN λd=>aN λf=>aN λb=>aN λm=>.AP 25 [.p 12,.x c,.i ((nth H (Int.toNat (0))).toNat:Int),.i (((nth H (Int.toNat (0))).toNat:Int)*2 ^ (Int.toNat (8))),.h f,.x b,.i ((nth H (Int.toNat (1))).toNat:Int),.h m,.l H] rfl ⟨aG.g (mL (a:=nth H (Int.toNat (1))) underlying5 underlying3 rfl),aG.g (WL rfl rfl d),aG.g (mL (a:=nth H (Int.toNat (0))) underlying5 underlying3 rfl),(show dB _ _=true by kernel_rfl)⟩ (.I rfl (.Z 5 [] rfl F) (.Z 7 [] rfl F)))
def zp{q:LQ uA}{r:(LQ Element)×Int}:kH q=some r->aR prog 240 [au 1 eW q] (rE (λr=>.dp [au 2 Element.row r.1,cI r.2]) r):=
 have⟨_,f,n,j,o⟩:=Fg;.S func240 rfl ntmps240 results240 rfl λS E F=>.A 15 [] rfl (lf (.tok (i:=4) (e:=447) (sz:=2) rfl) (.lq [] (λ⟨b,k,p⟩=>[(0,.d (au 1 eW b)),(4,.dA 2 (k.map Element.row) 0),(5,.d (cI p))]) (λ⟨b,k,p⟩=>[.t 0 ⟨447,2,k.length,none⟩]) rfl rfl (λ⟨b,k,p⟩ q1 c=>.V 7 [.l b] rfl (aN λs=>.AP 18 [.x s,.i ((nth b (Int.toNat (0))).toNat:Int)] rfl (aG.g (mL (a:=nth b (Int.toNat (0))) underlying5 underlying3 rfl)) (.I rfl (.A 5 [] rfl (.R1 F c)) (.V 7 [] rfl (.A 5 [] rfl (.R1 F c)) (aN λu=>aN λv=>.AP 17 [.l b,.l b,.H u,.y v,.i ((nth b (Int.toNat (1))).toNat:Int)] rfl (λG=>aG.g (mL (a:=nth b (Int.toNat (1))) underlying5 underlying3 rfl)) (.I rfl (.A 5 [] rfl (.R1 F c)) (aN λw=>aN λz=>aN λB=>aN λC=>aN λD=>aN λQ=>.AP 34 [.x w,.i ((nth b (Int.toNat (1))).toNat:Int),.h z,.d (.e0 1),.d (au 1 eW ((b.take (Int.toNat (2+((nth b (Int.toNat (1))).toNat:Int)))).drop ((2:Int)).toNat)),.d (au 1 eW ((b.take (Int.toNat (2+((nth b (Int.toNat (1))).toNat:Int)))).drop ((2:Int)).toNat)),.m [(⟨((nth b (Int.toNat (0))).toNat:Int),(b.take (Int.toNat (2+((nth b (Int.toNat (1))).toNat:Int)))).drop ((2:Int)).toNat⟩:Element)],.a D,.d (au 1 eW (b.drop (Int.toNat (2+((nth b (Int.toNat (1))).toNat:Int)))))] rfl ⟨aG.g (vP (l:=b) (row:=eW) underlying42 f j rfl rfl rfl Q),iG (l':=(b.take (Int.toNat (2+((nth b (Int.toNat (1))).toNat:Int)))).drop ((2:Int)).toNat) (row:=eW) underlying42 f n j rfl (by rw[o];decide) rfl (.inl rfl) rfl rfl C,aG.g (R5 (l:=b) (row:=eW) underlying42 f j rfl rfl rfl rfl B),(j▸bu underlying42 f),aG.g (mL (a:=nth b (Int.toNat (1))) underlying5 underlying3 rfl)⟩ (.zl c))))))) (.A 7 [] rfl (.R1 F c)))))
def ej{f:LQ uA}{r:Int×Bool}:dn f=some r->aR prog 382 [au 1 eW f] (rE (λr=>.dp [cI r.1,cB r.2]) r):=
 .S func382 rfl ntmps382 results382 rfl λS p F=>aN λe=>.AP 23 [.l f,.l f,.y e,.b ((nth f (Int.toNat (0)))==0)] rfl (λq=>aG.g (P6 (a:=nth f (Int.toNat (0))) (b:=0) rfl rfl)) (.I rfl (.Z 5 [] rfl F) (.A 13 [.l f] rfl (.lq [21,22] (λ⟨j,H⟩=>[(4,.d (cI j)),(23,.d (cI H))]) (λ_=>[]) rfl rfl (λ⟨j,H⟩ q1 c=>.V 5 [] rfl (aN λk=>aN λm=>aN λn=>aN λo=>.AP 22 [.x k,.i (j*2 ^ (Int.toNat (8))),.i ((nth f H.toNat).toNat:Int),.h n,.h o] rfl ⟨aG.g (mL (a:=nth f H.toNat) underlying5 underlying3 rfl),aG.g (WL rfl rfl m)⟩ (.zl c)) (.A 7 [] rfl (.R1 F c))))))
def Ee{v:uA}{r:Bool}:sH v=some r->aR prog 406 [KH v] (rE cB r):=
 .S func406 rfl ntmps406 results406 rfl λS h F=>.AP 14 [.b (decide (v>=48)),.b (decide (v<=57))] rfl ⟨λH=>aG.g (WJ (a:=v) (b:=57) rfl rfl),aG.g (q8_geq (a:=v) (b:=48) rfl rfl)⟩ (.R F)
def pO{b:LQ uA}{r:Bool}:ji b=some r->aR prog 279 [cS b] (rE cB r):=
 .S func279 rfl ntmps279 results279 rfl λS l F=>.A 11 [] rfl (.bj (ι:=Unit) [0] (λ_=>[]) (λ_=>[]) (λs=>oF b=some r) (λ_=>.Z 12 [] rfl F) (λm a=>.lq [0,5] (λo=>[(6,.d (cI o))]) (λ_=>[]) rfl rfl (λo q1 H=>.V 5 [] rfl (aN λe=>bA λy f=>.AP 16 [.c (nth b o.toNat),.k Ee f] rfl (aG.g (kS (i:=o) underlying9 rfl rfl e)) (.I rfl (.A 4 [] rfl (.R1 F H)) (aN λj=>.A 6 [.h j] rfl (.zl H)))) (.A 1 [] rfl (GO H (.zi a ()))))))
def Cu{f:LQ uA}{r:(LQ uA)×Int}:nj f=some r->aR prog 383 [au 1 eW f] (rE (λr=>.dp [cS r.1,cI r.2]) r):=
 .S func383 rfl ntmps383 results383 rfl λS G F=>.A 16 [.l f] rfl (lf (.tok (i:=4) (e:=5) (sz:=1) rfl) (.bj (ι:=LQ uA) [] (λo=>[(4,.dA 1 (o.map eW) 0)]) (λo=>[.t 0 (XA o.length)]) (λs=>jO s=some r) (λo=>bA λJ u=>.AP 8 [.s o,.k pO u] rfl (aG.g (tu (a:=o) underlying42 underlying5 underlying9 rfl rfl)) (.I rfl (.Z 5 [] rfl F) (.AP 8 [.s o] rfl (aG.g (tu (a:=o) underlying42 underlying5 underlying9 rfl rfl)) (.R F)))) (λK v=>.lq [0,7,8] (λ⟨p,j⟩=>[(4,.dA 1 (p.map eW) 0),(9,.d (cI j))]) (λ⟨p,j⟩=>[.t 0 (XA p.length)]) rfl rfl (λ⟨p,j⟩ q1 q=>.V 5 [] rfl (aN λw=>aN λy=>aN λz=>aN λB=>.AP 34 [.x w,.c (eX (nth f j.toNat) 4),.c (48+(eX (nth f j.toNat) 4)),.m [48+(eX (nth f j.toNat) 4)],.a z,.c ((nth f j.toNat) &&& 15),.b (((nth f j.toNat) &&& 15) != 15),.l f,.H B] rfl ⟨aG.g (vO (a:=(nth f j.toNat) &&& 15) (b:=15) rfl rfl),aG.g (sv (a:=nth f j.toNat) (b:=15) rfl rfl),aG.g (KI (a:=48) (b:=eX (nth f j.toNat) 4) rfl rfl),aG.g (Dt (a:=nth f j.toNat) (n:=4) rfl rfl y)⟩ (.I rfl (aN λC=>aN λD=>.AP 14 [.c ((nth f j.toNat) &&& 15),.c (48+((nth f j.toNat) &&& 15)),.m [48+((nth f j.toNat) &&& 15)],.a C,.h D] rfl ⟨aG.g (KI (a:=48) (b:=(nth f j.toNat) &&& 15) rfl rfl),aG.g (sv (a:=nth f j.toNat) (b:=15) rfl rfl)⟩ (.zl q)) (aN λE=>.A 6 [.h E] rfl (.zl q)))) (.A 1 [] rfl (GO q (.zi v p)))))))
def dJ{h L H:Int}{r:Bool}:dq h L H=some r->aR prog 388 [cI h,cI L,cI H] (rE cB r):=
 .S func388 rfl ntmps388 results388 rfl λS a F=>.Z 16 [] rfl F
def Cv{v0:aa}{r:Int}:nk v0=some r->aR prog 250 [.agg (aa.row v0)] (rE cI r):=
 .S func250 rfl ntmps250 results250 rfl λS m F=>.A 21 [.r 0] rfl (.sj (ι:=Int) [1,3] (λv=>[(4,.d (cI v))]) (λ_=>[]) (λs=>gL v0 s=some r) (λv=>bA λn a=>bA λy2 f=>.V 16 [.k dJ a,.K dJ f] rfl (.Z 4 [] rfl F) (bA λy3 c=>.V 8 [.k dJ c] rfl (.Z 4 [] rfl F) (bA λy4 q=>bA λy5 y=>.B 17 [.k pO q,.K pO y] rfl (lf (.jI (env':=[(44,_),(47,_)]) rfl rfl rfl ⟨.inr (.inl rfl),⟨.inr (.inr ⟨_,_,rfl,rfl⟩),trivial⟩⟩ rfl (λh=>aG.g (dV rfl rfl rfl))) (.B 1 [] rfl (lf (.jI (env':=[(42,_),(49,_)]) rfl rfl rfl ⟨.inr (.inl rfl),⟨.inr (.inr ⟨_,_,rfl,rfl⟩),trivial⟩⟩ rfl (λh=>aG.g (dV rfl rfl rfl))) (.V 3 [] rfl (.Z 4 [] rfl F) (bA λy6 e=>.V 8 [.k dJ e] rfl (.Z 4 [] rfl F) (bA λp i=>.V 9 [.k dJ i] rfl (.Z 4 [] rfl F) (aN λj=>.V 15 [.H j] rfl (.Z 4 [] rfl F) (bA λy8 Y=>bA λy9 l=>.V 14 [.k dJ Y,.K dJ l] rfl (.Z 4 [] rfl F) (.BP 16 [.b ((v0.part==0) != (v0.call==0))] rfl (aG.g (Wp rfl underlying4 rfl)) (lf (.jI (env':=[(97,_),(100,_)]) rfl rfl rfl ⟨.inr (.inl rfl),⟨.inr (.inr ⟨_,_,rfl,rfl⟩),trivial⟩⟩ rfl (λh=>aG.g (dV rfl rfl rfl))) (.V 3 [] rfl (.Z 4 [] rfl F) (bA λL Q=>.V 8 [.k dJ Q] rfl (.Z 4 [] rfl F) (.V 11 [] rfl (.Z 4 [] rfl F) (.Z 6 [] rfl F))))))))))))))))) (λo=>.V 6 [] rfl (.A 3 [] rfl (.zi o 604800)) (.A 1 [] rfl (.zi o 1099511627776))))
def gT{v0:aa}{r:(LQ uA)×Int}:dr v0=some r->aR prog 135 [.agg (aa.row v0)] (rE (λr=>.dp [cS r.1,cI r.2]) r):=
 have⟨_,i,f,j,_⟩:=Qv;.S func135 rfl ntmps135 results135 rfl λS N F=>bA λO l=>.V 18 [.r 0,.k Cv l] rfl (.Z 6 [] rfl F) (.A 11 [] rfl (.sj (ι:=LQ uA) [1,5] (λD=>[(6,.d (cS D))]) (λ_=>[]) (λs=>gf v0 s=some r) (λD=>aN λq=>aN λu=>bA λy2 v=>bA λy3 w=>bA λy4 x=>bA λy5 z=>.AP 31 [.p 25,.h q,.s ((([118,116,100,99]:LQ uA).take v0.kind.toNat).drop (v0.kind-1).toNat),.s y2,.s y3,.s y4,.s y5,.n (.dA 1 (([(([118,116,100,99]:LQ uA).take v0.kind.toNat).drop (v0.kind-1).toNat,y2,y3,v0.a,D,y4,y5]:LQ (LQ uA)).map rS) 0) (GW ([(([118,116,100,99]:LQ uA).take v0.kind.toNat).drop (v0.kind-1).toNat,y2,y3,v0.a,D,y4,y5]:LQ (LQ uA)).length)] rfl ⟨.e (IX (n:=7) underlying216 i j f rfl rfl rfl rfl rfl) rfl,vR (en 35 rfl) rfl rfl rfl (sP z),vR (en 35 rfl) rfl rfl rfl (sP x),vR (en 35 rfl) rfl rfl rfl (sP w),vR (en 35 rfl) rfl rfl rfl (sP v),aG.g (WM underlying9 rfl rfl rfl u),(show dB _ _=true by kernel_rfl)⟩ (.sj (ι:=LQ (LQ uA)) [1,5] (λB=>[(7,.dA 1 (B.map rS) 0)]) (λB=>[.t 0 (GW B.length)]) (λs=>eV v0 s=some r) (λB=>.sj (ι:=LQ (LQ uA)) [] (λU=>[(7,.dA 1 (U.map rS) 0)]) (λU=>[.t 0 (GW U.length)]) (λs=>ga s=some r) (λU=>bA λy6 C=>.Z 7 [.k YU C] rfl F) (λT=>.V 6 [] rfl (.A 4 [] rfl (.sj (ι:=LQ uA) [1,5,7] (λc=>[(8,.d (cS c))]) (λ_=>[]) (λs=>iT v0 B s=some r) (λc=>bA λy G=>aN λJ=>.AP 11 [.s y,.m [c,y],.a J] rfl (vR (en 35 rfl) rfl rfl rfl (sP G)) (.zi T (B++([c,y]:LQ (LQ uA))))) (λH=>.V 5 [] rfl (.A 3 [] rfl (.zi H ([105,110]:LQ uA))) (.A 1 [] rfl (.zi H ([111,117,116]:LQ uA)))))) (.A 1 [] rfl (.zi T B)))) (λE=>.V 6 [] rfl (bA λy8 Y=>bA λy9 K=>aN λL=>.AP 21 [.p 10,.s y8,.s y9,.m [([112,97,114,116]:LQ uA),y8,y9],.a L] rfl ⟨vR (en 35 rfl) rfl rfl rfl (sP K),vR (en 35 rfl) rfl rfl rfl (sP Y),(show dB _ _=true by kernel_rfl)⟩ (.I rfl (aN λM=>.A 6 [.m [([108,97,115,116]:LQ uA)],.a M] rfl (.zi E ((([(([118,116,100,99]:LQ uA).take v0.kind.toNat).drop (v0.kind-1).toNat,y2,y3,v0.a,D,y4,y5]:LQ (LQ uA))++([([112,97,114,116]:LQ uA),y8,y9]:LQ (LQ uA)))++([([108,97,115,116]:LQ uA)]:LQ (LQ uA))))) (.A 1 [] rfl (.zi E (([(([118,116,100,99]:LQ uA).take v0.kind.toNat).drop (v0.kind-1).toNat,y2,y3,v0.a,D,y4,y5]:LQ (LQ uA))++([([112,97,114,116]:LQ uA),y8,y9]:LQ (LQ uA))))))) (.A 1 [] rfl (.zi E ([(([118,116,100,99]:LQ uA).take v0.kind.toNat).drop (v0.kind-1).toNat,y2,y3,v0.a,D,y4,y5]:LQ (LQ uA))))))) (λo=>.V 5 [] rfl (.A 3 [] rfl (.zi o ([45]:LQ uA))) (.A 1 [] rfl (.zi o v0.b)))))
def Ef{v:Element}{B:aa}{r:Bool×aa}:oH v B=some r->bg prog 241 [.ref 0 0,.d (.agg (Element.row v))] ⟨[aa.o94 B],[]⟩ (QE (.d (cB r.1)) ⟨[aa.o94 r.2],[]⟩):=
 have⟨_,C,_,D,_⟩:=Fg;have⟨_,j,m,_,_⟩:=GQ;.S func241 rfl ntmps241 results241 rfl λS hS F=>.A 6 [.r 1] rfl (lf (.drawnM 35 0 (eL underlying3) ([(4,1,.ref 0 2),(8,2,.ref 0 0),(12,3,.ref 0 1),(16,6,.ref 0 5),(20,7,.ref 0 6),(24,8,.ref 0 7),(28,9,.ref 0 8),(32,10,.ref 0 10)]:LQ (Nat×Int×EV)) s7 (by kernel_rfl) underlying594 (by decide) rfl (by decide) (by decide)) (λH=>by
  show zf _ _ _ _ _ _ _ _ _ _ _ _ (_::_) _ _ _;refine .make rfl rfl ?_;refine .q (x:=.ref 0 0) (λs hs=>rX rfl) rfl rfl ?_;refine .q (x:=.ref 0 0) (λs hs=>mN rfl) rfl rfl ?_;refine .q (x:=.ref 0 2) (λs hs=>bn fo_94_2 rfl) rfl rfl ?_;refine .Nn 0 rfl rfl rfl (λ_ _ _ h=>dm h) rfl (by kernel_rfl) ?_;refine .q (x:=.ref 0 0) (λs hs=>rX rfl) rfl rfl ?_;refine .q (x:=.ref 0 0) (λs hs=>mN rfl) rfl rfl ?_;refine .q (x:=.ref 0 0) (λs hs=>bn fo_94_0 rfl) rfl rfl ?_;refine .Nn 1 rfl rfl rfl (λ_ _ _ h=>dm h) rfl (by kernel_rfl) ?_;refine .q (x:=.ref 0 0) (λs hs=>rX rfl) rfl rfl ?_;refine .q (x:=.ref 0 0) (λs hs=>mN rfl) rfl rfl ?_;refine .q (x:=.ref 0 1) (λs hs=>bn fo_94_1 rfl) rfl rfl ?_;refine .Nn 2 rfl rfl rfl (λ_ _ _ h=>dm h) rfl (by kernel_rfl) ?_;refine .q (x:=.ref 0 0) (λs hs=>rX rfl) rfl rfl ?_;refine .q (x:=.ref 0 0) (λs hs=>mN rfl) rfl rfl ?_;refine .q (x:=.ref 0 5) (λs hs=>bn fo_94_5 rfl) rfl rfl ?_;refine .Nn 3 rfl rfl rfl (λ_ _ _ h=>dm h) rfl (by kernel_rfl) ?_;refine .q (x:=.ref 0 0) (λs hs=>rX rfl) rfl rfl ?_;refine .q (x:=.ref 0 0) (λs hs=>mN rfl) rfl rfl ?_;refine .q (x:=.ref 0 6) (λs hs=>bn fo_94_6 rfl) rfl rfl ?_;refine .Nn 4 rfl rfl rfl (λ_ _ _ h=>dm h) rfl (by kernel_rfl) ?_;refine .q (x:=.ref 0 0) (λs hs=>rX rfl) rfl rfl ?_;refine .q (x:=.ref 0 0) (λs hs=>mN rfl) rfl rfl ?_;refine .q (x:=.ref 0 7) (λs hs=>bn fo_94_7 rfl) rfl rfl ?_;refine .Nn 5 rfl rfl rfl (λ_ _ _ h=>dm h) rfl (by kernel_rfl) ?_;refine .q (x:=.ref 0 0) (λs hs=>rX rfl) rfl rfl ?_;refine .q (x:=.ref 0 0) (λs hs=>mN rfl) rfl rfl ?_;refine .q (x:=.ref 0 8) (λs hs=>bn fo_94_8 rfl) rfl rfl ?_;refine .Nn 6 rfl rfl rfl (λ_ _ _ h=>dm h) rfl (by kernel_rfl) ?_;refine .q (x:=.ref 0 0) (λs hs=>rX rfl) rfl rfl ?_;refine .q (x:=.ref 0 0) (λs hs=>mN rfl) rfl rfl ?_;refine .q (x:=.ref 0 10) (λs hs=>bn Xr rfl) rfl rfl ?_;refine .Nn 7 rfl rfl rfl (λ_ _ _ h=>dm h) rfl (by kernel_rfl) ?_;refine .q (x:=.mp 2) (λs hs=>rX rfl) rfl rfl ?_;refine .q (x:=.mp 2) (λs hs=>F6 rfl) rfl rfl ?_;refine .nil λf L=>?_
  show bO _ _ _ _ _ _ [] _ _ _;refine .nil ?_;exact wh H (.A 2 [] rfl (λH=>by
   refine .split (decide (v.tag=1)) (λn=>?_) (λn=>?_)
   .replace H:=ifT n H;exact wh H (.AP 15 [.g (.dp [.ref 0 2,.d (cB true)])] rfl (aG.g (ik (eL underlying3) (l:=f) (k:=1) (ev:=.ref 0 2) underlying594 j m rfl rfl L (by decide) (zav (i:=0) rfl) rfl (λ_ _ _ h=>(dm h).trans (zaq (Value.int .i64) (zbk n))))) (λH=>by
     refine .cond rfl (λe=>?_) (λe=>by cases e);clear e;exact wh H (bA λy1 N=>.A 18 [.k ej N] rfl (.K F [0] []))))
   .replace H:=ifF n H;refine .split (decide (v.tag=2)) (λY=>?_) (λY=>?_)
    .replace H:=ifT Y H;exact wh H (.AP 15 [.g (.dp [.ref 0 0,.d (cB true)])] rfl (aG.g (ik (eL underlying3) (l:=f) (k:=2) (ev:=.ref 0 0) underlying594 j m rfl rfl L (by decide) (zav (i:=1) rfl) rfl (λ_ _ _ h=>(dm h).trans (zaq (Value.int .i64) (zbk Y))))) (λH=>by
      refine .cond rfl (λe=>?_) (λe=>by cases e);clear e;exact wh H (bA λy2 O=>.A 18 [.k ej O] rfl (.K F [0] []))))
    .replace H:=ifF Y H;refine .split (decide (v.tag=3)) (λo=>?_) (λo=>?_)
     .replace H:=ifT o H;exact wh H (.AP 15 [.g (.dp [.ref 0 1,.d (cB true)])] rfl (aG.g (ik (eL underlying3) (l:=f) (k:=3) (ev:=.ref 0 1) underlying594 j m rfl rfl L (by decide) (zav (i:=2) rfl) rfl (λ_ _ _ h=>(dm h).trans (zaq (Value.int .i64) (zbk o))))) (λH=>by
       refine .cond rfl (λe=>?_) (λe=>by cases e);clear e;exact wh H (bA λy3 P=>.A 18 [.k ej P] rfl (.K F [0] []))))
     .replace H:=ifF o H;refine .split (decide (v.tag=6)) (λp=>?_) (λp=>?_)
      .replace H:=ifT p H;exact wh H (.AP 15 [.g (.dp [.ref 0 5,.d (cB true)])] rfl (aG.g (ik (eL underlying3) (l:=f) (k:=6) (ev:=.ref 0 5) underlying594 j m rfl rfl L (by decide) (zav (i:=3) rfl) rfl (λ_ _ _ h=>(dm h).trans (zaq (Value.int .i64) (zbk p))))) (λH=>by
        refine .cond rfl (λe=>?_) (λe=>by cases e);clear e;exact wh H (bA λy4 Q=>.A 18 [.k ej Q] rfl (.K F [0] []))))
      .replace H:=ifF p H;refine .split (decide (v.tag=7)) (λZ=>?_) (λZ=>?_)
       .replace H:=ifT Z H;exact wh H (.AP 15 [.g (.dp [.ref 0 6,.d (cB true)])] rfl (aG.g (ik (eL underlying3) (l:=f) (k:=7) (ev:=.ref 0 6) underlying594 j m rfl rfl L (by decide) (zav (i:=4) rfl) rfl (λ_ _ _ h=>(dm h).trans (zaq (Value.int .i64) (zbk Z))))) (λH=>by
         refine .cond rfl (λe=>?_) (λe=>by cases e);clear e;exact wh H (bA λy5 R=>.A 18 [.k ej R] rfl (.K F [0] []))))
       .replace H:=ifF Z H;refine .split (decide (v.tag=8)) (λt=>?_) (λt=>?_)
        .replace H:=ifT t H;exact wh H (.AP 15 [.g (.dp [.ref 0 7,.d (cB true)])] rfl (aG.g (ik (eL underlying3) (l:=f) (k:=8) (ev:=.ref 0 7) underlying594 j m rfl rfl L (by decide) (zav (i:=5) rfl) rfl (λ_ _ _ h=>(dm h).trans (zaq (Value.int .i64) (zbk t))))) (λH=>by
          refine .cond rfl (λe=>?_) (λe=>by cases e);clear e;exact wh H (bA λy6 T=>.A 18 [.k ej T] rfl (.K F [0] []))))
        .replace H:=ifF t H;refine .split (decide (v.tag=9)) (λw=>?_) (λw=>?_)
         .replace H:=ifT w H;exact wh H (.AP 15 [.g (.dp [.ref 0 8,.d (cB true)])] rfl (aG.g (ik (eL underlying3) (l:=f) (k:=9) (ev:=.ref 0 8) underlying594 j m rfl rfl L (by decide) (zav (i:=6) rfl) rfl (λ_ _ _ h=>(dm h).trans (zaq (Value.int .i64) (zbk w))))) (λH=>by
           refine .cond rfl (λe=>?_) (λe=>by cases e);clear e;exact wh H (bA λy7 U=>.A 18 [.k ej U] rfl (.K F [0] []))))
         .replace H:=ifF w H;refine .split (decide (v.tag=10)) (λz=>?_) (λz=>?_)
          .replace H:=ifT z H;exact wh H (.AP 15 [.g (.dp [.ref 0 10,.d (cB true)])] rfl (aG.g (ik (eL underlying3) (l:=f) (k:=10) (ev:=.ref 0 10) underlying594 j m rfl rfl L (by decide) (zav (i:=7) rfl) rfl (λ_ _ _ h=>(dm h).trans (zaq (Value.int .i64) (zbk z))))) (λH=>by
            refine .cond rfl (λe=>?_) (λe=>by cases e);clear e;exact wh H (bA λy8 W=>.A 18 [.k ej W] rfl (.K F [0] []))))
          .replace H:=ifF z H;exact wh H (.AP 15 [.g (.dp [.d (.any),.d (cB false)])] rfl (aG.g (KU (eL underlying3) (l:=f) (k:=v.tag) underlying594 j m rfl rfl L (by simp only[zbb,zel,zao,zem,or_false,not_or];exact⟨zdb n,zdb Y,zdb o,zdb p,zdb Z,zdb t,zdb w,zdb z⟩) rfl (λ_ _ _ h=>dm h))) (λH=>by
            refine .cond rfl (λe=>by cases e) (λe=>?_);clear e;exact wh H (.A 8 [] rfl (.sj (ι:=Bool) [0,3,54] (λE=>[(55,.d (cB E))]) (λ_=>[]) (λs=>im v B s=some r) (λE=>.I rfl (bA λy9 X=>.V 18 [.k Cu X] rfl (.A 13 [] rfl (.K F [0] [])) (.A 13 [] rfl (.K F [0] []))) (.V 5 [] rfl (aN λcD=>aN λdC=>.AP 22 [.l v.value,.y cD,.b (decide ((nth v.value (Int.toNat (0)))<1)),.y dC,.b (decide ((nth v.value (Int.toNat (0))) > 3))] rfl ⟨λhg=>aG.g (xw (a:=nth v.value (Int.toNat (0))) (b:=3) rfl rfl),λhg=>aG.g (Dq (a:=nth v.value (Int.toNat (0))) (b:=1) rfl rfl)⟩ (.I rfl (.A 4 [] rfl (.K F [0] [])) (.A 2 [] rfl (aN λfp=>aN λiQ=>.o1 17 16 [[],[.c 0 9 (.d (cB (((nth v.value (Int.toNat (0))) &&& 1) != 0)))]] (.M (.ref 0 0) 0 0 (.M (.ref 0 0) 0 1 (.J (x:=.ref 1 1) 0 0 (λ_=>aG.g (bn NI rfl)) (.M (.d (au 1 eW v.value)) 0 0 (.J (x:=.d (.ro (eW (nth v.value (Int.toNat (0)))))) 0 0 (λ_=>aG.g (P7 (row:=eW) (l:=v.value) (i:=0) underlying42 C D rfl rfl rfl fp)) (.J (x:=.d (KH (nth v.value (Int.toNat (0))))) 0 0 (λ_=>aG.g (PJ one_5 rfl)) (.J (x:=.d (KH ((nth v.value (Int.toNat (0))) &&& 1))) 0 0 (λ_=>aG.g (sv (a:=nth v.value (Int.toNat (0))) (b:=1) rfl rfl)) (.J (x:=.d (cB (((nth v.value (Int.toNat (0))) &&& 1) != 0))) 0 0 (λ_=>aG.g (vO (a:=(nth v.value (Int.toNat (0))) &&& 1) (b:=0) rfl rfl)) (.J (x:=.ref 1 1) 0 0 (λ_=>aG.g (bn NI rfl)) (.M (.d (au 1 eW v.value)) 0 0 (.J (x:=.d (.ro (eW (nth v.value (Int.toNat (0)))))) 0 0 (λ_=>aG.g (P7 (row:=eW) (l:=v.value) (i:=0) underlying42 C D rfl rfl rfl iQ)) (.J (x:=.d (KH (nth v.value (Int.toNat (0))))) 0 0 (λ_=>aG.g (PJ one_5 rfl)) (.J (x:=.d (KH ((nth v.value (Int.toNat (0))) &&& 2))) 0 1 (λ_=>aG.g (sv (a:=nth v.value (Int.toNat (0))) (b:=2) rfl rfl)) (.J (x:=.d (cB (((nth v.value (Int.toNat (0))) &&& 2) != 0))) 0 1 (λ_=>aG.g (vO (a:=(nth v.value (Int.toNat (0))) &&& 2) (b:=0) rfl rfl)) (.M (.ref 0 0) 0 0 (.J (x:=.ref 0 9) 0 0 (λ_=>aG.g (bn fo_94_9 rfl)) (lf (.u 0 (tj rfl rfl rfl rfl (zae rfl) sz_4) rfl rfl rfl rfl) (lf (.nil rfl) (.A 8 [] rfl (.K F [0] [])))))))))))))))))))))))) (.A 6 [] rfl (.K F [0] [])))) (λG=>.V 5 [] rfl (.A 1 [] rfl (.zi G (v.tag==4))) (.A 4 [] rfl (.zi G (v.tag==5))))))))))))
def Cw{a:LQ uA}{r:aa×Int}:nm a=some r->aR prog 129 [au 1 eW a] (rE (λr=>.dp [.agg (aa.row r.1),cI r.2]) r):=
 have⟨_,R,_,T,_⟩:=Fg;.S func129 rfl ntmps129 results129 rfl λS U F=>bA λW X=>.A 15 [.r 0,.k w8 X] rfl (.sj (ι:=Int) [0,2] (λP=>[(5,.d (cI P))]) (λ_=>[]) (λs=>fc a s=some r) (λP=>.V 6 [] rfl (.Z 7 [] rfl F) (aN λY=>bA λy2 fD=>.AP 18 [.d (au 1 eW (a.drop ((2:Int)).toNat)),.k zp fD] rfl (aG.g (vP (l:=a) (row:=eW) underlying42 R T rfl rfl rfl Y)) (.I rfl (.Z 7 [] rfl F) (.A 12 [.r 1,.l y2.1] rfl (.bj (ι:=Int×Int×Int×LQ uA×LQ uA×Int×Int×Int×Int×Bool×Int×Bool) [2,7] (λ⟨u,v,D,y,z,C,E,G,J,K,L,M⟩=>[]) (λ⟨u,v,D,y,z,C,E,G,J,K,L,M⟩=>[.o 1 (.row 94 [.d (cI u),.d (cI v),.d (cI D),.d (cS y),.d (cS z),.d (cI C),.d (cI E),.d (cI G),.d (cI J),.d (cB K),.d (cI L),.d (cB M)])]) (λs=>nN s.1 s.2.1 s.2.2.1 s.2.2.2.1 s.2.2.2.2.1 s.2.2.2.2.2.1 s.2.2.2.2.2.2.1 s.2.2.2.2.2.2.2.1 s.2.2.2.2.2.2.2.2.1 s.2.2.2.2.2.2.2.2.2.1 s.2.2.2.2.2.2.2.2.2.2.1 s.2.2.2.2.2.2.2.2.2.2.2=some r) (λ⟨u,v,D,y,z,C,E,G,J,K,L,M⟩=>bA λy3 ku=>.V 16 [.k gT ku] rfl (.Z 7 [] rfl F) (.Z 7 [] rfl F)) (λEc H=>.lq [2,7,39,40] (λ⟨N,j,c,b,e,f,i,m,n,p,q,w,t⟩=>[(41,.d (cI N))]) (λ⟨N,j,c,b,e,f,i,m,n,p,q,w,t⟩=>[.o 1 (.row 94 [.d (cI j),.d (cI c),.d (cI b),.d (cS e),.d (cS f),.d (cI i),.d (cI m),.d (cI n),.d (cI p),.d (cB q),.d (cI w),.d (cB t)])]) rfl rfl (λ⟨N,j,c,b,e,f,i,m,n,p,q,w,t⟩ q1 O=>.V 5 [] rfl (aN λdC=>bA λy4 qA=>.B 13 [.x dC,.r 2] rfl (.cf [1] [] (.d (cB y4.1)) [.o 1 (aa.o94 y4.2)] Ef qA (.V 2 [] rfl (.A 6 [] rfl (.R1 F O)) (aN λfp=>.A 6 [.h fp] rfl (.tl 2 0 O U))))) (.A 1 [] rfl (GO O (.zi H (j,c,b,e,f,i,m,n,p,q,w,t))))))))))) (λQ=>.V 11 [.l a] rfl (.A 3 [] rfl (.zi Q 3)) (.A 1 [] rfl (.zi Q W.2))))
def HQ{q:LQ uA}{r:(LQ aa)×(LQ ai)×Int}:rA q=some r->aR prog 53 [au 1 eW q] (rE (λr=>.dp [au 12 aa.row r.1,au 4 ai.row r.2.1,cI r.2.2]) r):=
 have⟨_,u,_,v,_⟩:=Fg;.S func53 rfl ntmps53 results53 rfl λS w F=>.A 19 [] rfl (lf (.tok (i:=5) (e:=94) (sz:=12) rfl) (lf (.tok (i:=6) (e:=195) (sz:=4) rfl) (.bj (ι:=LQ aa×LQ ai) [] (λ⟨j,p⟩=>[(5,.dA 12 (j.map aa.row) 0),(6,.dA 4 (p.map ai.row) 1)]) (λ⟨j,p⟩=>[.t 0 (cF j.length),.t 1 (kG p.length)]) (λs=>wP s.1 s.2=some r) (λ⟨j,p⟩=>.Z 8 [] rfl F) (λL x=>.lq [] (λ⟨b,H,c,f⟩=>[(0,.d (au 1 eW b)),(5,.dA 12 (H.map aa.row) 0),(6,.dA 4 (c.map ai.row) 1),(7,.d (cI f))]) (λ⟨b,H,c,f⟩=>[.t 0 (cF H.length),.t 1 (kG c.length)]) rfl rfl (λ⟨b,H,c,f⟩ q1 n=>.V 7 [.l b] rfl (.V 9 [] rfl (.A 6 [] rfl (.R1 F n)) (bA λo z=>.V 17 [.k w8 z] rfl (.A 7 [] rfl (.R1 F n)) (aN λB=>bA λy2 C=>.AP 14 [.d (au 1 eW (b.take o.1.toNat)),.k Cw C,.r 0] rfl (aG.g (Gp (l:=b) (row:=eW) underlying42 u v rfl rfl rfl B)) (.sj (ι:=LQ aa×LQ ai) [0,7,8] (λ⟨y,D⟩=>[(5,.dA 12 (y.map aa.row) 0),(6,.dA 4 (D.map ai.row) 1)]) (λ⟨y,D⟩=>[.t 0 (cF y.length),.t 1 (kG D.length)]) (λs=>j8 b f o s.1 s.2=some q1) (λ⟨y,D⟩=>aN λG=>aN λI=>.AP 12 [.d (au 1 eW (b.drop o.1.toNat)),.h I] rfl (aG.g (vP (l:=b) (row:=eW) underlying42 u v rfl rfl rfl G)) (.tl 0 2 n w)) (λE=>.V 5 [] rfl (aN λJ=>.A 9 [.m [(⟨0,0,f,y2.2⟩:ai)],.a J] rfl (.zi E (H,c++([(⟨0,0,f,y2.2⟩:ai)]:LQ ai)))) (aN λK=>.A 7 [.m [y2.1],.a K] rfl (.zi E (H++([y2.1]:LQ aa),c)))))))) (.A 1 [] rfl (GO n (.zi x (H,c)))))))))
def HS{H:LQ uA}{r:uA}:rB H=some r->aR prog 242 [au 1 eW H] (rE KH r):=
 .S func242 rfl ntmps242 results242 rfl λS k F=>.A 16 [.l H] rfl (.lq [6,7] (λ⟨m,e⟩=>[(3,.d (KH m)),(8,.d (cI e))]) (λ_=>[]) rfl rfl (λ⟨m,e⟩ q1 f=>.V 5 [] rfl (aN λi=>aN λj=>.AP 20 [.x i,.c (m+(nth H e.toNat)),.h j] rfl (aG.g (KI (a:=m) (b:=nth H e.toNat) rfl rfl)) (.zl f)) (.A 6 [] rfl (.R1 F f))))
def AW{H:LQ uA}{r:Int×Int}:lV H=some r->aR prog 384 [au 1 eW H] (rE (λr=>.dp [cI r.1,cI r.2]) r):=
 .S func384 rfl ntmps384 results384 rfl λS w F=>.V 17 [.l H,.l H] rfl (.Z 5 [] rfl F) (.A 13 [.l H] rfl (.lq [15,16] (λ⟨j,e⟩=>[(4,.d (cI j)),(17,.d (cI e))]) (λ_=>[]) rfl rfl (λ⟨j,e⟩ q1 f=>.V 5 [] rfl (aN λk=>aN λm=>.AP 21 [.x k,.c (eX (nth H e.toNat) 4),.b (decide ((eX (nth H e.toNat) 4) > 9)),.c ((nth H e.toNat) &&& 15),.b (decide (((nth H e.toNat) &&& 15) > 9))] rfl ⟨λo=>aG.g (xw (a:=(nth H e.toNat) &&& 15) (b:=9) rfl rfl),λo=>aG.g (sv (a:=nth H e.toNat) (b:=15) rfl rfl),aG.g (xw (a:=eX (nth H e.toNat) 4) (b:=9) rfl rfl),aG.g (Dt (a:=nth H e.toNat) (n:=4) rfl rfl m)⟩ (.I rfl (.A 5 [] rfl (.R1 F f)) (aN λp=>aN λq=>aN λs=>aN λt=>aN λu=>aN λv=>.AP 20 [.h p,.c (eX (nth H e.toNat) 4),.i ((eX (nth H e.toNat) 4).toNat:Int),.h s,.h t,.c ((nth H e.toNat) &&& 15),.i (((nth H e.toNat) &&& 15).toNat:Int),.h u,.h v] rfl ⟨aG.g (mL (a:=(nth H e.toNat) &&& 15) underlying5 underlying3 rfl),aG.g (sv (a:=nth H e.toNat) (b:=15) rfl rfl),aG.g (mL (a:=eX (nth H e.toNat) 4) underlying5 underlying3 rfl),aG.g (Dt (a:=nth H e.toNat) (n:=4) rfl rfl q)⟩ (.zl f)))) (.A 7 [] rfl (.R1 F f)))))
def Cy{H:LQ uA}{r:(LQ uA)×Bool}:np H=some r->aR prog 385 [au 1 eW H] (rE (λr=>.dp [cS r.1,cB r.2]) r):=
 .S func385 rfl ntmps385 results385 rfl λS G F=>aN λp=>aN λq=>.AP 24 [.x p,.c (eX (nth H (Int.toNat (0))) 4),.i ((eX (nth H (Int.toNat (0))) 4).toNat:Int)] rfl ⟨aG.g (mL (a:=eX (nth H (Int.toNat (0))) 4) underlying5 underlying3 rfl),aG.g (Dt (a:=nth H (Int.toNat (0))) (n:=4) rfl rfl q)⟩ (lf (.tok (i:=5) (e:=5) (sz:=1) rfl) (.lq [0,4] (λ⟨k,f⟩=>[(5,.dA 1 (k.map eW) 0),(13,.d (cI f))]) (λ⟨k,f⟩=>[.t 0 (XA k.length)]) rfl rfl (λ⟨k,f⟩ q1 l=>.V 5 [] rfl (aN λu=>aN λv=>aN λw=>aN λy=>.AP 19 [.h u,.i (Int.tdiv (f+1) 2),.x w,.c (eX (nth H (Int.tdiv (f+1) 2).toNat) 4)] rfl ⟨aG.g (Dt (a:=nth H (Int.tdiv (f+1) 2).toNat) (n:=4) rfl rfl y),aG.g (KJ rfl rfl v)⟩ (.sj (ι:=uA) [0,4,5,6,13] (λj=>[(7,.d (KH j))]) (λ_=>[]) (λs=>fe H k f s=some q1) (λj=>.AP 12 [.b (decide (j<=9))] rfl (λz=>aG.g (WJ (a:=j) (b:=9) rfl rfl)) (.I rfl (aN λB=>aN λC=>.AP 14 [.c (48+j),.m [48+j],.a B,.h C] rfl (aG.g (KI (a:=48) (b:=j) rfl rfl)) (.zl l)) (.AP 11 [.b (j != 0)] rfl (λz=>aG.g (vO (a:=j) (b:=0) rfl rfl)) (.I rfl (.A 5 [] rfl (.R1 F l)) (aN λQ=>.A 7 [.h Q] rfl (.zl l)))))) (λo=>aN λD=>.AP 6 [.i (Int.tmod f 2)] rfl (aG.g (WK rfl rfl D)) (.I rfl (aN λL=>aN λE=>.AP 9 [.i (Int.tdiv f 2),.x E,.c ((nth H (Int.tdiv f 2).toNat) &&& 15)] rfl ⟨aG.g (sv (a:=nth H (Int.tdiv f 2).toNat) (b:=15) rfl rfl),aG.g (KJ rfl rfl L)⟩ (.zi o ((nth H (Int.tdiv f 2).toNat) &&& 15))) (.A 1 [] rfl (.zi o (eX (nth H (Int.tdiv (f+1) 2).toNat) 4))))))) (.AP 8 [.s k] rfl (aG.g (tu (a:=k) underlying42 underlying5 underlying9 rfl rfl)) (.R1 F l)))))
def fR{k:Int}{a:cW}{r:(LQ uA)×cW}:dv k a=some r->bg prog 131 [.ref 0 0,.d (cI k)] ⟨[.row 301 [.d (au 1 eW a.b),.d (cB a.bad)]],[]⟩ (QE (.d (au 1 eW r.1)) ⟨[.row 301 [.d (au 1 eW r.2.b),.d (cB r.2.bad)]],[]⟩):=
 have⟨_,A,_,h,_⟩:=Fg;.S func131 rfl ntmps131 results131 rfl λS e F=>aN λc=>aN λH=>.AP 33 [.d (au 1 eW (a.b.take k.toNat)),.d (au 1 eW (a.b.drop k.toNat))] rfl ⟨aG.g (vP (l:=a.b) (row:=eW) underlying42 A h rfl rfl rfl H),aG.g (Sa (l:=a.b) (row:=eW) underlying42 A h rfl rfl rfl rfl c)⟩ (.K F [0] [])
def ct{h:Int}{a:cW}{r:Int×cW}:bI h a=some r->bg prog 243 [.ref 0 0,.d (cI h)] ⟨[.row 301 [.d (au 1 eW a.b),.d (cB a.bad)]],[]⟩ (QE (.d (cI r.1)) ⟨[.row 301 [.d (au 1 eW r.2.b),.d (cB r.2.bad)]],[]⟩):=
 .S func243 rfl ntmps243 results243 rfl λS c F=>bA λy H=>.B 8 [] rfl (.cf [0] [] (.d (au 1 eW y.1)) [.o 0 (.row 301 [.d (au 1 eW y.2.b),.d (cB y.2.bad)])] fR H (bA λy2 f=>.A 27 [.k AW f] rfl (.K F [0] [])))
def mY{a:cW}{r:(LQ uA)×cW}:eO a=some r->bg prog 244 [.ref 0 0] ⟨[.row 301 [.d (au 1 eW a.b),.d (cB a.bad)]],[]⟩ (QE (.d (cS r.1)) ⟨[.row 301 [.d (au 1 eW r.2.b),.d (cB r.2.bad)]],[]⟩):=
 .S func244 rfl ntmps244 results244 rfl λS H F=>bA λy h=>.B 7 [] rfl (.cf [0] [] (.d (au 1 eW y.1)) [.o 0 (.row 301 [.d (au 1 eW y.2.b),.d (cB y.2.bad)])] fR h (bA λy2 f=>.A 27 [.k Cy f] rfl (.K F [0] [])))
def Cz{v0:LQ uA}{r:aa×Int}:nq v0=some r->aR prog 130 [au 1 eW v0] (rE (λr=>.dp [.agg (aa.row r.1),cI r.2]) r):=
 have⟨_,A,_,f,_⟩:=Fg;.S func130 rfl ntmps130 results130 rfl λS K F=>.V 14 [.r 0,.l v0] rfl (.Z 6 [] rfl F) (.V 7 [.l v0] rfl (.Z 6 [] rfl F) (aN λj=>bA λe m=>aN λq=>.AP 12 [.p 8,.d (au 1 eW (v0.take ((44:Int)).toNat)),.k HS m,.x q,.b (e != (nth v0 (Int.toNat (44))))] rfl ⟨aG.g (vO (a:=e) (b:=nth v0 (Int.toNat (44))) rfl rfl),aG.g (Gp (l:=v0) (row:=eW) underlying42 A f rfl rfl rfl j),(show dB _ _=true by kernel_rfl)⟩ (.I rfl (.Z 6 [] rfl F) (bA λy2 s=>.B 16 [.r 1,.r 2] rfl (.cf [1] [] (.d (cI y2.1)) [.o 1 (.row 301 [.d (au 1 eW y2.2.b),.d (cB y2.2.bad)])] ct s (bA λy3 t=>.B 6 [] rfl (.cf [1] [] (.d (cI y3.1)) [.o 1 (.row 301 [.d (au 1 eW y3.2.b),.d (cB y3.2.bad)])] ct t (bA λy4 u=>.B 6 [] rfl (.cf [1] [] (.d (au 1 eW y4.1)) [.o 1 (.row 301 [.d (au 1 eW y4.2.b),.d (cB y4.2.bad)])] fR u (aN λv=>aN λw=>bA λy5 z=>.BP 25 [.x v,.c (eX (nth y4.1 (Int.toNat (0))) 4),.i ((eX (nth y4.1 (Int.toNat (0))) 4).toNat:Int),.c ((nth y4.1 (Int.toNat (0))) &&& 1),.b (((nth y4.1 (Int.toNat (0))) &&& 1) != 0),.c ((nth y4.1 (Int.toNat (0))) &&& 2),.b (((nth y4.1 (Int.toNat (0))) &&& 2) != 0)] rfl ⟨aG.g (vO (a:=(nth y4.1 (Int.toNat (0))) &&& 2) (b:=0) rfl rfl),aG.g (sv (a:=nth y4.1 (Int.toNat (0))) (b:=2) rfl rfl),aG.g (vO (a:=(nth y4.1 (Int.toNat (0))) &&& 1) (b:=0) rfl rfl),aG.g (sv (a:=nth y4.1 (Int.toNat (0))) (b:=1) rfl rfl),aG.g (mL (a:=eX (nth y4.1 (Int.toNat (0))) 4) underlying5 underlying3 rfl),aG.g (Dt (a:=nth y4.1 (Int.toNat (0))) (n:=4) rfl rfl w)⟩ (.cf [1] [] (.d (cS y5.1)) [.o 1 (.row 301 [.d (au 1 eW y5.2.b),.d (cB y5.2.bad)])] mY z (bA λy6 C=>.B 6 [] rfl (.cf [1] [] (.d (cS y6.1)) [.o 1 (.row 301 [.d (au 1 eW y6.2.b),.d (cB y6.2.bad)])] mY C (bA λy D=>.B 6 [] rfl (.cf [1] [] (.d (cI y.1)) [.o 1 (.row 301 [.d (au 1 eW y.2.b),.d (cB y.2.bad)])] ct D (bA λy8 Y=>.B 6 [] rfl (.cf [1] [] (.d (cI y8.1)) [.o 1 (.row 301 [.d (au 1 eW y8.2.b),.d (cB y8.2.bad)])] ct Y (bA λy9 E=>.B 6 [] rfl (.cf [1] [] (.d (cI y9.1)) [.o 1 (.row 301 [.d (au 1 eW y9.2.b),.d (cB y9.2.bad)])] ct E (bA λL G=>.B 6 [] rfl (.cf [1] [] (.d (cI L.1)) [.o 1 (.row 301 [.d (au 1 eW L.2.b),.d (cB L.2.bad)])] ct G (bA λQ h=>.B 6 [] rfl (.cf [1] [] (.d (cI Q.1)) [.o 1 (.row 301 [.d (au 1 eW Q.2.b),.d (cB Q.2.bad)])] ct h (.AP 16 [.c ((nth y4.1 (Int.toNat (0))) &&& 15),.b (decide (((nth y4.1 (Int.toNat (0))) &&& 15) > 3))] rfl ⟨λJ=>aG.g (xw (a:=(nth y4.1 (Int.toNat (0))) &&& 15) (b:=3) rfl rfl),λJ=>aG.g (sv (a:=nth y4.1 (Int.toNat (0))) (b:=15) rfl rfl)⟩ (.I rfl (.Z 6 [] rfl F) (bA λM H=>.V 17 [.k gT H] rfl (.Z 7 [] rfl F) (.Z 7 [] rfl F)))))))))))))))))))))))))))
def HT{H:LQ uA}{r:(LQ aa)×(LQ ai)×Int}:rC H=some r->aR prog 54 [au 1 eW H] (rE (λr=>.dp [au 12 aa.row r.1,au 4 ai.row r.2.1,cI r.2.2]) r):=
 .S func54 rfl ntmps54 results54 rfl λS x F=>aN λz=>.AP 14 [.l H,.i (Int.tmod (H.length:Int) 45)] rfl (aG.g (WK rfl rfl z)) (.I rfl (.Z 6 [] rfl F) (aN λC=>.AP 9 [.l H,.i (Int.tdiv (H.length:Int) 45)] rfl (aG.g (KJ rfl rfl C)) (.I rfl (.Z 6 [] rfl F) (aN λD=>.AP 24 [.r 0,.l H,.i (Int.tdiv (H.length:Int) 45)] rfl (aG.g (KJ rfl rfl D)) (lf (.tok (i:=5) (e:=94) (sz:=12) rfl) (lf (.tok (i:=6) (e:=195) (sz:=4) rfl) (.bj (ι:=LQ aa×LQ ai×LQ uA×Bool) [] (λ⟨j,p,u,L⟩=>[(5,.dA 12 (j.map aa.row) 0),(6,.dA 4 (p.map ai.row) 1)]) (λ⟨j,p,u,L⟩=>[.o 0 (.row 301 [.d (au 1 eW u),.d (cB L)]),.t 0 (cF j.length),.t 1 (kG p.length)]) (λs=>wR s.1 s.2.1 s.2.2.1 s.2.2.2=some r) (λ⟨j,p,u,L⟩=>.Z 8 [] rfl F) (λP E=>.lq [7,24] (λ⟨c,f,w,n,q⟩=>[(5,.dA 12 (c.map aa.row) 0),(6,.dA 4 (f.map ai.row) 1),(25,.d (cI w))]) (λ⟨c,f,w,n,q⟩=>[.o 0 (.row 301 [.d (au 1 eW n),.d (cB q)]),.t 0 (cF c.length),.t 1 (kG f.length)]) rfl rfl (λ⟨c,f,w,n,q⟩ q1 v=>.V 5 [] rfl (bA λy G=>.B 11 [] rfl (.cf [0] [] (.d (au 1 eW y.1)) [.o 0 (.row 301 [.d (au 1 eW y.2.b),.d (cB y.2.bad)])] fR G (bA λy2 J=>.V 14 [.k Cz J,.r 1] rfl (aN λK=>aN λM=>.A 15 [.m [(⟨0,0,w,y2.2⟩:ai)],.a K,.h M] rfl (.tl 1 2 v x)) (aN λN=>aN λO=>.A 13 [.m [y2.1],.a N,.h O] rfl (.tl 1 2 v x))))) (.A 1 [] rfl (GO v (.zi E (c,f,n,q)))))))))))))
def CA{b:LQ uA}{r:(LQ (LQ uA))×Int}:nr b=some r->aR prog 132 [cS b] (rE (λr=>.dp [au 1 rS r.1,cI r.2]) r):=
 .S func132 rfl ntmps132 results132 rfl λS h F=>.V 11 [] rfl (.Z 5 [] rfl F) (bA λy d=>.V 17 [.k Jd d] rfl (.Z 5 [] rfl F) (bA λy2 f=>.V 14 [.k J1 f,.l y2] rfl (.Z 5 [] rfl F) (.Z 7 [] rfl F)))
def zq{H:LQ uA}{r:Int×Bool}:kI H=some r->aR prog 387 [cS H] (rE (λr=>.dp [cI r.1,cB r.2]) r):=
 .S func387 rfl ntmps387 results387 rfl λS u F=>aN λp=>.BP 22 [.c (nth H (Int.toNat (0))),.b ((nth H (Int.toNat (0)))==48)] rfl ⟨λk=>aG.g (P6 (a:=nth H (Int.toNat (0))) (b:=48) rfl rfl),λk=>aG.g (kS (i:=0) underlying9 rfl rfl (p k))⟩ (lf (.jI (env':=[(18,_),(20,_)]) rfl rfl rfl ⟨.inr (.inl rfl),⟨.inr (.inr ⟨_,_,rfl,rfl⟩),trivial⟩⟩ rfl (λk=>aG.g (dV rfl rfl rfl))) (.V 2 [] rfl (.Z 5 [] rfl F) (.AP 12 [.Z (.ref 0 0) [.O (.raw (.stringIter ⟨H.toArray⟩ 0))]] rfl (.e (v_range (l:=H) underlying9 rfl) rfl) (.lq [24] (λ⟨m,j⟩=>[(4,.d (cI m))]) (λ⟨m,j⟩=>[.o 0 (.raw (.stringIter ⟨H.toArray⟩ j))]) rfl rfl (λ⟨m,j⟩ q1 n=>.AP 6 [.Z (.d (BH H j)) [.o 0 (.raw (.stringIter ⟨H.toArray⟩ (zN H j)))],.f 3 (.d (cB (decide (j<H.length))))] rfl ⟨aG.g (WU (l:=H) rfl),.e (v_next (l:=H) rfl rfl) rfl⟩ (.I rfl (aN λq=>.AP 17 [.f 13 (.d (cK .i32 ((nH H j).1:Int)))] rfl (aG.g (Qa (l:=H) q rfl)) (.I rfl (.A 5 [] rfl (.R1 F n)) (aN λs=>aN λt=>.AP 11 [.h s,.d (cK .i32 (IntKind.wrap .i32 (((nH H j).1:Int) - 48))),.i (IntKind.wrap .i64 (IntKind.wrap .i32 (((nH H j).1:Int) - 48))),.h t] rfl ⟨aG.g (qG underlying21 underlying3 rfl rfl),aG.g (q_sub rfl rfl rfl)⟩ (.zl n)))) (.A 7 [] rfl (.R1 F n))))))))
def fS{a:az}{r:(LQ uA)×az}:dx a=some r->bg prog 246 [.ref 0 0] ⟨[.row 454 [.d (au 1 rS a.words),.d (cB a.bad)]],[]⟩ (QE (.d (cS r.1)) ⟨[.row 454 [.d (au 1 rS r.2.words),.d (cB r.2.bad)]],[]⟩):=
 have⟨_,h,_,H,_⟩:=Qv;.S func246 rfl ntmps246 results246 rfl λS e F=>aN λc=>.V 23 [.l a.words,.y c] rfl (.A 11 [] rfl (.K F [0] [])) (aN λb=>aN λf=>.AP 28 [.x b,.d (au 1 rS (a.words.drop ((1:Int)).toNat))] rfl (aG.g (vP (l:=a.words) (row:=rS) underlying216 h H rfl rfl rfl f)) (.K F [0] []))
def bU{a:az}{r:Int×az}:bw a=some r->bg prog 248 [.ref 0 0] ⟨[.row 454 [.d (au 1 rS a.words),.d (cB a.bad)]],[]⟩ (QE (.d (cI r.1)) ⟨[.row 454 [.d (au 1 rS r.2.words),.d (cB r.2.bad)]],[]⟩):=
 .S func248 rfl ntmps248 results248 rfl λS H F=>bA λy h=>.B 7 [] rfl (.cf [0] [] (.d (cS y.1)) [.o 0 (.row 454 [.d (au 1 rS y.2.words),.d (cB y.2.bad)])] fS h (bA λy2 f=>.A 27 [.k zq f] rfl (.K F [0] [])))
def fT{z:LQ uA}{a:az}{r:Bool×az}:dy z a=some r->bg prog 249 [.ref 0 0,.d (cS z)] ⟨[.row 454 [.d (au 1 rS a.words),.d (cB a.bad)]],[]⟩ (QE (.d (cB r.1)) ⟨[.row 454 [.d (au 1 rS r.2.words),.d (cB r.2.bad)]],[]⟩):=
 have⟨_,h,_,H,_⟩:=Qv;.S func249 rfl ntmps249 results249 rfl λS e F=>aN λc=>.V 24 [.l a.words,.y c] rfl (.A 4 [] rfl (.K F [0] [])) (aN λb=>.AP 17 [.d (au 1 rS (a.words.drop ((1:Int)).toNat))] rfl (aG.g (vP (l:=a.words) (row:=rS) underlying216 h H rfl rfl rfl b)) (.K F [0] []))
def AX{v0:LQ uA}{r:aa×Int}:lW v0=some r->aR prog 133 [cS v0] (rE (λr=>.dp [.agg (aa.row r.1),cI r.2]) r):=
 .S func133 rfl ntmps133 results133 rfl λS hS F=>bA λy1 P=>bA λy2 R=>.B 20 [.r 0,.k J1 P,.r 1,.r 2] rfl (.cf [1] [] (.d (cS y2.1)) [.o 1 (.row 454 [.d (au 1 rS y2.2.words),.d (cB y2.2.bad)])] fS R (bA λy3 U=>aN λW=>bA λy4 X=>.B 13 [.k Ve U,.h W] rfl (.cf [1] [] (.d (cI y4.1)) [.o 1 (.row 454 [.d (au 1 rS y4.2.words),.d (cB y4.2.bad)])] bU X (bA λy5 Y=>.B 6 [] rfl (.cf [1] [] (.d (cI y5.1)) [.o 1 (.row 454 [.d (au 1 rS y5.2.words),.d (cB y5.2.bad)])] bU Y (bA λy6 HH=>.B 6 [] rfl (.cf [1] [] (.d (cS y6.1)) [.o 1 (.row 454 [.d (au 1 rS y6.2.words),.d (cB y6.2.bad)])] fS HH (bA λD Vh=>.B 6 [] rfl (.cf [1] [] (.d (cS D.1)) [.o 1 (.row 454 [.d (au 1 rS D.2.words),.d (cB D.2.bad)])] fS Vh (bA λy8 Y5=>.B 6 [] rfl (.cf [1] [] (.d (cI y8.1)) [.o 1 (.row 454 [.d (au 1 rS y8.2.words),.d (cB y8.2.bad)])] bU Y5 (bA λy9 Y6=>.B 6 [] rfl (.cf [1] [] (.d (cI y9.1)) [.o 1 (.row 454 [.d (au 1 rS y9.2.words),.d (cB y9.2.bad)])] bU Y6 (.A 3 [] rfl (.sj (ι:=LQ uA) [0,2,4,5,6] (λj=>[]) (λj=>[.c 2 4 (.d (cS j))]) (λs=>dY v0 y2 y3 y4 y5 y6 y8 y9 s=some r) (λj=>.sj (ι:=LQ (LQ uA)×Bool×Int×Int×Bool) [0,2,4,5,6] (λ⟨J,K,n,i,m⟩=>[]) (λ⟨J,K,n,i,m⟩=>[.o 1 (.row 454 [.d (au 1 rS J),.d (cB K)]),.c 2 7 (.d (cI n)),.c 2 8 (.d (cI i)),.c 2 9 (.d (cB m))]) (λs=>gg v0 y2 y3 y4 y5 y6 y8 y9 j s.1 s.2.1 s.2.2.1 s.2.2.2.1 s.2.2.2.2=some r) (λ⟨J,K,n,i,m⟩=>.sj (ι:=LQ (LQ uA)×Bool×Int×Bool) [0,2,4,5,6] (λ⟨E,L,G,I⟩=>[]) (λ⟨E,L,G,I⟩=>[.o 1 (.row 454 [.d (au 1 rS E),.d (cB L)]),.c 2 10 (.d (cI G)),.c 2 11 (.d (cB I))]) (λs=>dX v0 y2 y3 y4 y5 y6 y8 y9 j n i m s.1 s.2.1 s.2.2.1 s.2.2.2=some r) (λ⟨E,L,G,I⟩=>.V 26 [.l E] rfl (.Z 6 [] rfl F) (bA λLm Q9=>.A 11 [.k gT Q9] rfl (.sj (ι:=Int) [2,5] (λM=>[(8,.d (cI M))]) (λ_=>[]) (λs=>iU y3 y4 y5 y6 y8 y9 j n i m G I s=some r) (λM=>.V 6 [] rfl (.Z 7 [] rfl F) (.Z 7 [] rfl F)) (λp=>.V 10 [] rfl (.A 3 [] rfl (.zi p 1)) (.A 1 [] rfl (.zi p Lm.2)))))) (λT=>bA λQ q=>.B 3 [] rfl (.cf [1] [] (.d (cB Q.1)) [.o 1 (.row 454 [.d (au 1 rS Q.2.words),.d (cB Q.2.bad)])] fT q (.V 1 [] rfl (bA λg t=>.B 7 [] rfl (.cf [1] [] (.d (cI g.1)) [.o 1 (.row 454 [.d (au 1 rS g.2.words),.d (cB g.2.bad)])] bU t (.A 3 [] rfl (.zi T (g.2.words,g.2.bad,g.1,true))))) (bA λa u=>.B 3 [] rfl (.cf [1] [] (.d (cB a.1)) [.o 1 (.row 454 [.d (au 1 rS a.2.words),.d (cB a.2.bad)])] fT u (.V 1 [] rfl (bA λy v=>.B 2 [] rfl (.cf [1] [] (.d (cI y.1)) [.o 1 (.row 454 [.d (au 1 rS y.2.words),.d (cB y.2.bad)])] bU v (.A 3 [] rfl (.zi T (y.2.words,y.2.bad,y.1,false))))) (.A 1 [] rfl (.zi T (a.2.words,a.2.bad,0,false)))))))))) (λN=>bA λb w=>.B 3 [] rfl (.cf [1] [] (.d (cB b.1)) [.o 1 (.row 454 [.d (au 1 rS b.2.words),.d (cB b.2.bad)])] fT w (.V 1 [] rfl (bA λe x=>.B 3 [] rfl (.cf [1] [] (.d (cI e.1)) [.o 1 (.row 454 [.d (au 1 rS e.2.words),.d (cB e.2.bad)])] bU x (bA λf z=>.B 6 [] rfl (.cf [1] [] (.d (cI f.1)) [.o 1 (.row 454 [.d (au 1 rS f.2.words),.d (cB f.2.bad)])] bU z (bA λH C=>.B 5 [] rfl (.cf [1] [] (.d (cB H.1)) [.o 1 (.row 454 [.d (au 1 rS H.2.words),.d (cB H.2.bad)])] fT C (.A 3 [] rfl (.zi N (H.2.words,H.2.bad,e.1,f.1,H.1))))))))) (.A 1 [] rfl (.zi N (b.2.words,b.2.bad,0,0,false))))))) (λO=>.V 6 [] rfl (.A 4 [] rfl (.zi O ([]:LQ uA))) (.A 1 [] rfl (.zi O D.1))))))))))))))))))
def Ft{c:LQ uA}{r:(LQ aa)×(LQ ai)×Int}:qj c=some r->aR prog 55 [cS c] (rE (λr=>.dp [au 12 aa.row r.1,au 4 ai.row r.2.1,cI r.2.2]) r):=
 .S func55 rfl ntmps55 results55 rfl λS f F=>bA λg j=>.V 22 [.k CA j] rfl (.Z 7 [] rfl F) (.A 16 [.l g.1] rfl (lf (.tok (i:=7) (e:=94) (sz:=12) rfl) (lf (.tok (i:=8) (e:=195) (sz:=4) rfl) (.bj (ι:=LQ aa×LQ ai) [] (λ⟨y,D⟩=>[(7,.dA 12 (y.map aa.row) 0),(8,.dA 4 (D.map ai.row) 1)]) (λ⟨y,D⟩=>[.t 0 (cF y.length),.t 1 (kG D.length)]) (λs=>u5 s.1 s.2=some r) (λ⟨y,D⟩=>.Z 8 [] rfl F) (λC n=>.lq [21,22] (λ⟨q,u,H⟩=>[(7,.dA 12 (q.map aa.row) 0),(8,.dA 4 (u.map ai.row) 1),(23,.d (cI H))]) (λ⟨q,u,H⟩=>[.t 0 (cF q.length),.t 1 (kG u.length)]) rfl rfl (λ⟨q,u,H⟩ q1 b=>.V 5 [] rfl (aN λo=>bA λy2 p=>.V 28 [.x o,.k AX p,.r 0] rfl (aN λv=>aN λw=>.A 15 [.m [(⟨0,0,H,y2.2⟩:ai)],.a v,.h w] rfl (.tl 0 2 b f)) (aN λz=>aN λB=>.A 13 [.m [y2.1],.a z,.h B] rfl (.tl 0 2 b f))) (.A 1 [] rfl (GO b (.zi n (q,u))))))))))
end Go.Proofs.YtleflofddacmdaaGreatDoor
end
