/- Our own texts of this seat. -/
import Derived.WalkKit
import Derived.Below
import Derived.AtR
import Derived.Defers
import Derived.Laws.RangeString
import Derived.Laws.RangeAny
import Derived.Laws.MakeOwn
set_option linter.unusedSimpArgs false
set_option linter.unusedVariables false
set_option linter.unusedSectionVars false
set_option maxRecDepth 100000
set_option maxHeartbeats 1000000
namespace Go
abbrev O:=List
abbrev J:=Option
abbrev uA:=UInt8
abbrev uB:=Value
abbrev uC:=World
abbrev uD:=Array
abbrev uE:=TypeId
abbrev uG:=Program
abbrev uH:=Operand
end Go
namespace Go
end Go
namespace Go.Abs
def GL:List (Nat×uD uB):=[]
def GI:List Nat:=[]
end Go.Abs
namespace Go.Abs
open Go.RowKit
inductive D where
 | ex (v:uB)
 | agg (cs:List D)
 | dp (cs:List D)
 | sl (sz:Nat) (rows:List (List D))
 | ro (cs:List D)
 | e0 (sz:Nat)
 | any
inductive cT (bl:Nat->Nat) (w:uC):D->uB->Prop where
 | ex (v:uB):cT bl w (.ex v) v
 | agg (cs:List D) (vs:uD uB) (hs:vs.size=cs.length)
   (h1:∀ (i:Nat) (u:uB),vs[i]?=some u->u.oneCell'=true)
   (h:∀ (i:Nat) c (u:uB),cs[i]?=some c->vs[i]?=some u->cT bl w c u):cT bl w (.agg cs) (.agg vs)
 | dp (cs:List D) (vs:uD uB) (hs:vs.size=cs.length)
   (h:∀ (i:Nat) c (u:uB),cs[i]?=some c->vs[i]?=some u->cT bl w c u):cT bl w (.dp cs) (.tuple vs)
 | nil (sz:Nat) (A:Option Addr):cT bl w (.sl sz []) (.slice A 0 0)
 | sl (sz:Nat) (rows:List (List D)) (b off cap:Nat) (hc:rows.length<=cap) (hr:∀ row,row∈rows->row.length=sz)
   (hx:∀ k,k<rows.length*sz->off+k<bl b/\∃ u:uB,w.cell? ⟨b,off+k,none⟩=some u/\u.oneCell'=true)
   (h:∀ (i j:Nat) row c (u:uB),rows[i]?=some row->row[j]?=some c->w.cell? ⟨b,off+(i*sz+j),none⟩=some u->cT bl w c u) :
   cT bl w (.sl sz rows) (.slice (some ⟨b,off,none⟩) rows.length cap)
 | ro (cs:List D) (b off:Nat)
   (hx:∀ k,k<cs.length->off+k<bl b/\∃ u:uB,w.cell? ⟨b,off+k,none⟩=some u/\u.oneCell'=true)
   (h:∀ (j:Nat) c (u:uB),cs[j]?=some c->w.cell? ⟨b,off+j,none⟩=some u->cT bl w c u):cT bl w (.ro cs) (.pointer (some ⟨b,off,none⟩))
 | e0 (sz:Nat) (A:Option Addr) (h:A=none∨∃ b off,A=some ⟨b,off,none⟩):cT bl w (.e0 sz) (.slice A 0 0)
 | any (v:uB):cT bl w .any v
structure Fl (l:Nat->Nat) (w:uC) (l':Nat->Nat) (w':uC):Prop where
 size:w.heap.size<=w'.heap.size
 bl:∀ b:Nat,b<w.heap.size->l b<=l' b
 cell:∀ b off:Nat,b<w.heap.size->off<l b->w'.cell? ⟨b,off,none⟩=w.cell? ⟨b,off,none⟩
theorem Fl.refl (bl:Nat->Nat) (w:uC):Fl bl w bl w:=⟨Nat.le_refl _,λ_ _=>Nat.le_refl _,λ_ _ _ _=>rfl⟩
theorem Fl.trans {l1 l2 l3:Nat->Nat} {w1 w2 w3:uC} (h:Fl l1 w1 l2 w2) (k:Fl l2 w2 l3 w3):Fl l1 w1 l3 w3 :=
 ⟨Nat.le_trans h.size k.size,λb hb=>Nat.le_trans (h.bl b hb) (k.bl b (Nat.lt_of_lt_of_le hb h.size)),
  λb off hb ho=>(k.cell b off (Nat.lt_of_lt_of_le hb h.size) (Nat.lt_of_lt_of_le ho (h.bl b hb))).trans (h.cell b off hb ho)⟩
theorem Bu {i j n sz:Nat} (hi:i<n) (hj:j<sz):i*sz+j<n*sz:=by
 have:(i+1)*sz<=n*sz:=Nat.mul_le_mul_right sz hi
 rw[Nat.add_mul] at this
 omega
theorem cT.mono {bl b9:Nat->Nat} {w w':uC} (e:Fl bl w b9 w') {x:D} {v:uB} (h:cT bl w x v):cT b9 w' x v:=by
 induction h with
 | ex v=>exact .ex v
 | agg cs vs hs h1 _ ih=>exact .agg cs vs hs h1 ih
 | dp cs vs hs _ ih=>exact .dp cs vs hs ih
 | nil sz A=>exact .nil sz A
 | sl sz rows b off cap hc hr hx _ ih =>
  have cX:∀ k,k<rows.length*sz->w'.cell? ⟨b,off+k,none⟩=w.cell? ⟨b,off+k,none⟩:=by
   intro k hk
   obtain ⟨hl,u,hu,_⟩:=hx k hk
   exact e.cell b (off+k) (World.block_lt_of_cell? w _ hu) hl
  refine .sl sz rows b off cap hc hr ?_ ?_
  ·intro k hk
   obtain ⟨hl,u,hu,h1⟩:=hx k hk
   exact ⟨Nat.lt_of_lt_of_le hl (e.bl b (World.block_lt_of_cell? w _ hu)),u,(cX k hk).trans hu,h1⟩
  ·intro i j row c u hi hj hu
   refine ih i j row c u hi hj ?_
   rw[←cX (i*sz+j) ?_]
   ·exact hu
   ·have hl:=hr row (List.mem_of_getElem? hi)
    exact Bu (List.getElem?_eq_some_iff.1 hi).1 (by rw[←hl];exact (List.getElem?_eq_some_iff.1 hj).1)
 | ro cs b off hx _ ih =>
  have cX:∀ k,k<cs.length->w'.cell? ⟨b,off+k,none⟩=w.cell? ⟨b,off+k,none⟩:=by
   intro k hk
   obtain ⟨hl,u,hu,_⟩:=hx k hk
   exact e.cell b (off+k) (World.block_lt_of_cell? w _ hu) hl
  refine .ro cs b off ?_ ?_
  ·intro k hk
   obtain ⟨hl,u,hu,h1⟩:=hx k hk
   exact ⟨Nat.lt_of_lt_of_le hl (e.bl b (World.block_lt_of_cell? w _ hu)),u,(cX k hk).trans hu,h1⟩
  ·intro j c u hj hu
   refine ih j c u hj ?_
   rw[←cX j (List.getElem?_eq_some_iff.1 hj).1]
   exact hu
 | e0 sz A h=>exact .e0 sz A h
 | any v=>exact .any v
inductive EV where
 | d (x:D)
 | ref (o off:Nat)
 | wW (o off len cap:Nat)
 | bX (sz:Nat) (rows:List (List D)) (t:Nat)
 | mp (o:Nat)
 | xj (f:FuncId) (WR:List EV)
 | agg (cs:List EV)
 | dp (cs:List EV)
 | gd (b:Bool) (x:EV)
  | vc (t k:Nat)
  | vp (t k i off:Nat)
  | vw (t k lo n:Nat)
structure fZ where
 e:uE
 sz:Nat
 n:Nat
 own:Option (List (List D))
inductive fm where
 | row (ty:uE) (cs:List EV)
 | map (es:List (uB×EV))
 | raw (x:Obj)
 | gone
structure St where
 aR:List fm
 al:List fZ
structure br where
 bl:Nat->Nat
 ob:Nat->Nat
 tk:Nat->uB
def V4 (v:uB) (n:Nat):Prop:=n=0/\∃ A,v=.slice A 0 0
inductive bm (g:br) (w:uC) (st:St):EV->uB->Prop where
 | d (x:D) (v:uB) (h:cT g.bl w x v):bm g w st (.d x) v
 | ref (o off:Nat) (h:o<st.aR.length):bm g w st (.ref o off) (.pointer (some ⟨g.ob o,off,none⟩))
 | wW (o off len cap:Nat) (h:o<st.aR.length):bm g w st (.wW o off len cap) (.slice (some ⟨g.ob o,off,none⟩) len cap)
 | bX (sz:Nat) (rows:List (List D)) (t:Nat) (v:uB) (e:uE) (n:Nat) (hd:cT g.bl w (.sl sz rows) v) (ht:st.al[t]?=some ⟨e,sz,n,none⟩)
   (hn:rows.length<=n) (hv:rows.length=n->v=g.tk t∨V4 v n):bm g w st (.bX sz rows t) v
 | mp (o:Nat) (h:o<st.aR.length):bm g w st (.mp o) (.map (some (g.ob o)))
 | xj (f:FuncId) (cs:List EV) (vs:uD uB) (hs:vs.size=cs.length)
   (h:∀ (i:Nat) c (u:uB),cs[i]?=some c->vs[i]?=some u->bm g w st c u):bm g w st (.xj f cs) (.func (.func f) #[] vs)
 | agg (cs:List EV) (vs:uD uB) (hs:vs.size=cs.length) (h1:∀ (i:Nat) (u:uB),vs[i]?=some u->u.oneCell'=true)
   (h:∀ (i:Nat) c (u:uB),cs[i]?=some c->vs[i]?=some u->bm g w st c u):bm g w st (.agg cs) (.agg vs)
 | dp (cs:List EV) (vs:uD uB) (hs:vs.size=cs.length)
   (h:∀ (i:Nat) c (u:uB),cs[i]?=some c->vs[i]?=some u->bm g w st c u):bm g w st (.dp cs) (.tuple vs)
 | gd (b:Bool) (x:EV) (v:uB) (h0:b=false->v=undef) (h:b=true->bm g w st x v):bm g w st (.gd b x) v
 | vc (t k:Nat) (v:uB) (ht:t<st.al.length) (hf:∃ A n c,v=.slice A n c) (h:∀ x rows,st.al[t]?=some x->x.own=some rows->k<=x.n/\(k=x.n->v=g.tk t∨V4 v x.n)):bm g w st (.vc t k) v
 | vp (t k i off:Nat) (v:uB) (ht:t<st.al.length) (hf:∃ b o,v=.pointer (some ⟨b,o,none⟩))
   (h:∀ x rows,st.al[t]?=some x->x.own=some rows->k<=x.n/\(k=x.n->∃ b n c,g.tk t=.slice (some ⟨b,0,none⟩) n c/\v=.pointer (some ⟨b,i*x.sz+off,none⟩))):bm g w st (.vp t k i off) v
 | vw (t k lo n:Nat) (v:uB) (ht:t<st.al.length) (hf:∃ A c,v=.slice A n c)
   (h:∀ x rows,st.al[t]?=some x->x.own=some rows->k<=x.n/\(k=x.n->n=0∨∃ b m c c',g.tk t=.slice (some ⟨b,0,none⟩) m c/\v=.slice (some ⟨b,lo*x.sz,none⟩) n c')):bm g w st (.vw t k lo n) v
structure qE (g:br) (w:uC) (st:St) (g':br) (w':uC) (st':St):Prop where
 bI:Fl g.bl w g'.bl w'
 ob:∀ o,o<st.aR.length->g'.ob o=g.ob o
 aR:st.aR.length<=st'.aR.length
 al:∀ t e sz n,st.al[t]?=some ⟨e,sz,n,none⟩->∃ n',st'.al[t]?=some ⟨e,sz,n',none⟩/\n<=n'/\(n'=n->g'.tk t=g.tk t)
 Fu:st.al.length<=st'.al.length
 own:∀ t x' aY,t<st.al.length->st'.al[t]?=some x'->x'.own=some aY->∃ x rows,st.al[t]?=some x/\x.own=some rows/\x.sz=x'.sz/\x.n<=x'.n/\(x.n=x'.n->g'.tk t=g.tk t)
theorem pN {g g':br} {st st':St} (hs:∀ t x' aY,t<st.al.length->st'.al[t]?=some x'->x'.own=some aY->st.al[t]?=some x'/\g'.tk t=g.tk t) :
  ∀ t x' aY,t<st.al.length->st'.al[t]?=some x'->x'.own=some aY->∃ x rows,st.al[t]?=some x/\x.own=some rows/\x.sz=x'.sz/\x.n<=x'.n/\(x.n=x'.n->g'.tk t=g.tk t) :=
 λt x' aY cd hx ho=>⟨x',aY,(hs t x' aY cd hx ho).1,ho,rfl,Nat.le_refl _,λ_=>(hs t x' aY cd hx ho).2⟩
theorem qE.refl (g:br) (w:uC) (st:St):qE g w st g w st :=
 ⟨.refl _ _,λ_ _=>rfl,Nat.le_refl _,λ_ _ _ n h=>⟨n,h,Nat.le_refl _,λ_=>rfl⟩,Nat.le_refl _,pN λ_ _ _ _ h _=>⟨h,rfl⟩⟩
theorem qE.trans {g1 g2 g3:br} {w1 w2 w3:uC} {s1 s2 s3:St} (h:qE g1 w1 s1 g2 w2 s2) (k:qE g2 w2 s2 g3 w3 s3):qE g1 w1 s1 g3 w3 s3:=by
 refine ⟨h.bI.trans k.bI,λo ho=>(k.ob o (Nat.lt_of_lt_of_le ho h.aR)).trans (h.ob o ho),Nat.le_trans h.aR k.aR,λt e sz n ht=>?_,Nat.le_trans h.Fu k.Fu,λt WS Pn cd hx ho=>?_⟩
 rotate_left
 ·obtain ⟨x',aY,a1,a2,a3,a4,a5⟩:=k.own t WS Pn (Nat.lt_of_lt_of_le cd h.Fu) hx ho
  obtain ⟨x,rows,b1,b2,b3,b4,b5⟩:=h.own t x' aY cd a1 a2
  exact ⟨x,rows,b1,b2,b3.trans a3,Nat.le_trans b4 a4,λe=>(a5 (by omega)).trans (b5 (by omega))⟩
 obtain ⟨n',h1,h2,h3⟩:=h.al t e sz n ht
 obtain ⟨WT,k1,k2,k3⟩:=k.al t e sz n' h1
 refine ⟨WT,k1,Nat.le_trans h2 k2,λhn=>?_⟩
 have e1:n'=n:=by omega
 subst e1
 exact (k3 hn).trans (h3 rfl)
theorem bm.mono {g g':br} {w w':uC} {st st':St} (e:qE g w st g' w' st') {x:EV} {v:uB} (h:bm g w st x v):bm g' w' st' x v:=by
 induction h with
 | d x v h=>exact .d x v (h.mono e.bI)
 | ref o off h=>rw[←e.ob o h];exact .ref o off (Nat.lt_of_lt_of_le h e.aR)
 | wW o off len cap h=>rw[←e.ob o h];exact .wW o off len cap (Nat.lt_of_lt_of_le h e.aR)
 | bX sz rows t v el n hd ht hn hv =>
  obtain ⟨n',h1,h2,h3⟩:=e.al t el sz n ht
  refine .bX sz rows t v el n' (hd.mono e.bI) h1 (Nat.le_trans hn h2) (λhr=>?_)
  have e1:n'=n:=by omega
  subst e1
  exact (hv hr).imp (·.trans (h3 rfl).symm) id
 | mp o h=>rw[←e.ob o h];exact .mp o (Nat.lt_of_lt_of_le h e.aR)
 | xj f cs vs hs _ ih=>exact .xj f cs vs hs ih
 | agg cs vs hs h1 _ ih=>exact .agg cs vs hs h1 ih
 | dp cs vs hs _ ih=>exact .dp cs vs hs ih
 | gd b x v h0 _ ih=>exact .gd b x v h0 ih
 | vc t k v ht hf h =>
  refine .vc t k v (Nat.lt_of_lt_of_le ht e.Fu) hf λx' aY hx ho=>?_
  obtain ⟨x,rows,b1,b2,_,b4,b5⟩:=e.own t x' aY ht hx ho
  obtain ⟨c1,c2⟩:=h x rows b1 b2
  exact ⟨by omega,λhk=>by
   have e1:x.n=x'.n:=by omega
   have:=c2 (by omega)
   rw[e1] at this
   exact this.imp (·.trans (b5 e1).symm) id⟩
 | vp t k i off v ht hf h =>
  refine .vp t k i off v (Nat.lt_of_lt_of_le ht e.Fu) hf λx' aY hx ho=>?_
  obtain ⟨x,rows,b1,b2,b3,b4,b5⟩:=e.own t x' aY ht hx ho
  obtain ⟨c1,c2⟩:=h x rows b1 b2
  exact ⟨by omega,λhk=>by
   obtain ⟨b,n,c,d1,d2⟩:=c2 (by omega)
   exact ⟨b,n,c,(b5 (by omega)).trans d1,by rw[←b3];exact d2⟩⟩
 | vw t k lo n v ht hf h =>
  refine .vw t k lo n v (Nat.lt_of_lt_of_le ht e.Fu) hf λx' aY hx ho=>?_
  obtain ⟨x,rows,b1,b2,b3,b4,b5⟩:=e.own t x' aY ht hx ho
  obtain ⟨c1,c2⟩:=h x rows b1 b2
  exact ⟨by omega,λhk=>by
   rcases c2 (by omega) with hz|⟨b,m,c,c',d1,d2⟩
   ·exact .inl hz
   ·exact .inr ⟨b,m,c,c',(b5 (by omega)).trans d1,by rw[←b3];exact d2⟩⟩
def St.live (st:St) (o:Nat):Prop:=∃ x,st.aR[o]?=some x/\x≠.gone
def uL (B:Nat) (w:uC):Prop:=(∀ x∈GL,x.1<B/\∃ ty fr,w.heap[x.1]?=some (.cells x.2 ty fr))/\∀ k∈GI,k<B/\∃ m,w.cell? ⟨k,0,none⟩=some (.int .i64 m)
theorem uL.below {B:Nat} {w w':uC} (h:uL B w) (hb:Below B w w'):uL B w':=⟨λx hx =>
 let ⟨h1,ty,fr,h2⟩:=h.1 x hx
 ⟨h1,ty,fr,(hb.block _ h1).trans h2⟩,λk hk =>
 let ⟨h1,m,h2⟩:=h.2 k hk
 ⟨h1,m,(hb.cell (p:=⟨k,0,none⟩) h1).trans h2⟩⟩
theorem uL.mono {B B':Nat} {w:uC} (h:uL B w) (hb:B<=B'):uL B' w:=⟨λx hx =>
 let ⟨h1,h2⟩:=h.1 x hx
 ⟨Nat.lt_of_lt_of_le h1 hb,h2⟩,λk hk =>
 let ⟨h1,h2⟩:=h.2 k hk
 ⟨Nat.lt_of_lt_of_le h1 hb,h2⟩⟩
structure e7 (bl:Nat->Nat) (w:uC) (sz n:Nat) (rows:List (List D)) (xs:List uB):Prop where
 len:rows.length=n
 row:∀ r,r∈rows->r.length=sz
 rep:∀ (i:Nat) c (u:uB),rows.flatten[i]?=some c->xs[i]?=some u->cT bl w c u/\u.oneCell'=true
theorem e7.mono {bl b9:Nat->Nat} {w w':uC} {sz n:Nat} {rows:O (O D)} {xs:O uB} (h:e7 bl w sz n rows xs) (e:Fl bl w b9 w'):e7 b9 w' sz n rows xs :=
 ⟨h.len,h.row,λi c u a b=>⟨(h.rep i c u a b).1.mono e,(h.rep i c u a b).2⟩⟩
structure Inv (g:br) (B:Nat) (w:uC) (st:St):Prop where
 base:B<=w.heap.size
 row:∀ o ty cs,st.aR[o]?=some (.row ty cs)->B<=g.ob o/\g.bl (g.ob o)=0 /\
  ∃ vs:uD uB,w.heap[g.ob o]?=some (.cells vs ty (0,0))/\vs.size=cs.length/\∀ (i:Nat) c (u:uB),cs[i]?=some c->vs[i]?=some u->bm g w st c u/\u.oneCell'=true
 map:∀ o es,st.aR[o]?=some (.map es)->B<=g.ob o /\
  ∃ (ms:uD MapEntry) (clock:Nat),w.heap[g.ob o]?=some (.map ms clock)/\ms.size=es.length /\
   (∀ (i:Nat) k x (m:MapEntry),es[i]?=some (k,x)->ms[i]?=some m->m.key=k/\bm g w st x m.val) /\
   (∀ (i:Nat) (m:MapEntry),ms[i]?=some m->m.born<clock) /\
   (∀ (i j:Nat) (m m':MapEntry),ms[i]?=some m->ms[j]?=some m'->m.born=m'.born->i=j)
 raw:∀ o x,st.aR[o]?=some (.raw x)->B<=g.ob o/\g.bl (g.ob o)=0/\w.heap[g.ob o]?=some x
 ne:∀ o o',o≠o'->st.live o->st.live o'->g.ob o≠g.ob o'
 tail:∀ t e sz n,st.al[t]?=some ⟨e,sz,n,none⟩->∃ xs,w.ownsRow B e sz (g.tk t) n xs/\∀ b,(g.tk t).ownBlock=some b->g.bl b=n*sz
 km:∀ t t' x x' b,t≠t'->st.al[t]?=some x->st.al[t']?=some x'->(g.tk t).ownBlock=some b->(g.tk t').ownBlock≠some b
 eD:∀ t x o,st.al[t]?=some x->st.live o->(g.tk t).ownBlock≠some (g.ob o)
 xJ:uL B w
 own:∀ t e sz n rows,st.al[t]?=some ⟨e,sz,n,some rows⟩->∃ xs,w.ownsRow B e sz (g.tk t) n xs/\(∀ b,(g.tk t).ownBlock=some b->g.bl b=0)/\e7 g.bl w sz n rows xs
theorem Inv.ME {g:br} {B:Nat} {w:uC} {st:St} (h:Inv g B w st) {t:Nat} {x:fZ} (hx:st.al[t]?=some x):∃ xs,w.ownsRow B x.e x.sz (g.tk t) x.n xs:=by
 obtain ⟨e,sz,n,own⟩:=x
 cases own with
 | none=>obtain ⟨xs,h1,_⟩:=h.tail t e sz n hx;exact ⟨xs,h1⟩
 | some rows=>obtain ⟨xs,h1,_⟩:=h.own t e sz n rows hx;exact ⟨xs,h1⟩
theorem Inv.qF {g:br} {B:Nat} {w:uC} {st:St} (h:Inv g B w st) {t:Nat} {x:fZ} (hx:st.al[t]?=some x) {b:Nat} (hb:(g.tk t).ownBlock=some b):B<=b/\b<w.heap.size:=by
 obtain ⟨xs,h1⟩:=h.ME hx;exact h1.lt b hb
theorem dc {w w':uC} {B e sz n:Nat} {v:uB} {xs:O uB} (h:w.ownsRow B e sz v n xs) (hb:∀ b,v.ownBlock=some b->w'.heap[b]?=w.heap[b]?):w'.ownsRow B e sz v n xs:=by
 obtain ⟨k1,k2⟩:=h
 refine ⟨k1,?_⟩
 rcases k2 with k2|⟨gb,cap,cur,e1,e2,e3,e4⟩
 ·exact .inl k2
 ·exact .inr ⟨gb,cap,cur,e1,e2,by rw[hb gb (by rw[e1];rfl)];exact e3,e4⟩
def o7 (g:br) (st:St) (b:Nat):Prop:=(∃ o,st.live o/\g.ob o=b)∨(∃ t x,st.al[t]?=some x/\(g.tk t).ownBlock=some b)
abbrev Env:=List (Nat×EV)
def lookup (i:Nat):Env->Option EV
 | []=>none
 | (j,x)::e=>match Nat.beq i j with
  | true=>some x
  | false=>lookup i e
def cJ (g:br) (w:uC) (st:St) (env:Env) (tmps:uD uB):Prop :=
 ∀ i x,lookup i env=some x->∃ v:uB,tmps[i]?=some v/\bm g w st x v
theorem cJ.mono {g g':br} {w w':uC} {st st':St} {env:Env} {tmps:uD uB} (e:qE g w st g' w' st') (h:cJ g w st env tmps):cJ g' w' st' env tmps :=
 λi x hx=>let ⟨v,h1,h2⟩:=h i x hx;⟨v,h1,h2.mono e⟩
theorem cJ.put {g:br} {w:uC} {st:St} {env:Env} {tmps:uD uB} {d:Nat} {x:EV} {v:uB} (h:cJ g w st env tmps) (hd:d<tmps.size) (hv:bm g w st x v) :
  cJ g w st ((d,x)::env) (tmps.setIfInBounds d v):=by
 intro i y hy
 unfold lookup at hy
 by_cases hi:i=d
 ·subst hi
  have:Nat.beq i i=true:=Nat.beq_refl i
  rw[this] at hy
  simp only[Option.some.injEq] at hy
  subst hy
  exact ⟨v,by simp[hd],hv⟩
 ·have:Nat.beq i d=false:=by
   cases hb:Nat.beq i d with
   | false=>rfl
   | true=>exact absurd (Nat.eq_of_beq_eq_true hb) hi
  rw[this] at hy
  obtain ⟨u,h1,h2⟩:=h i y hy
  exact ⟨u,by simp[Array.getElem?_setIfInBounds,Ne.symm hi,h1],h2⟩
structure Start where
 g:br
 w:uC
 st:St
 base:Nat
structure th (S:Start) (g:br) (w:uC) (st:St):Prop where
 du:qE S.g S.w S.st g w st
 below:Below S.base S.w w
 bl:∀ b,b<S.base->g.bl b=S.g.bl b
 frame:∀ b,b<S.w.heap.size->¬ o7 S.g S.st b->w.heap[b]?=S.w.heap[b]?/\g.bl b=S.g.bl b
 fresh:∀ b,b<S.w.heap.size->o7 g st b->o7 S.g S.st b
def pO (S:Start) (Q:EV->St->Prop) (e:Ending) (w:uC):Prop :=
 ∃ v r st g,e=.returned v/\Q r st/\bm g w st r v/\Inv g S.base w st/\th S g w st
structure Ctx where
 fn:FuncId
 ds:List Deferred
 ro:Option Nat
 dk:Bool
@[reducible] def Ctx.of (f:FuncId):Ctx:=⟨f,[],none,false⟩
def bf (f:Ctx):Frame:={ (default:Frame) with fn:=f.fn,kind:=(match f.dk with|true=>.deferred|false=>.normal),roundOf:=f.ro }
def Ctx.fin (P:uG) (f:Ctx) (fr:Frame) (w:uC) (e:Ending):Prop :=
 match f.ro with
 | none=>match f.dk with
  | false=>fr.fn=f.fn/\fr.leaving P w e
  | true=>fr.kind=.deferred/\fr.going P w e
 | some _=>e=.returned (.bool true)/\∃ tmps,fr=(bf f).atR ⟨tmps,f.ds⟩ []
def dv (P:uG) (f:Ctx) (R:Ending->uC->Prop) (todo:List Item) (tmps:uD uB) (w:uC):Prop :=
 ∀ cs,∃ e w' fr,R e w'/\Comes P (lone ((bf f).atR ⟨tmps,f.ds⟩ todo) cs w) (lone fr cs w') e/\f.fin P fr w' e
theorem dv.step {P:uG} {f:Ctx} {R:Ending->uC->Prop} {todo Oz:O Item} {tmps OA:uD uB} {w w':uC}
  (h:∀ cs,step P (lone ((bf f).atR ⟨tmps,f.ds⟩ todo) cs w)=.next (lone ((bf f).atR ⟨OA,f.ds⟩ Oz) cs w')) (k:dv P f R Oz OA w'):dv P f R todo tmps w:=by
 intro cs
 obtain ⟨e,w2,fr,hR,hc,h1⟩:=k cs
 exact ⟨e,w2,fr,hR,Comes.of_steps (.one (h cs)) hc,h1⟩
theorem xK {ro:J Nat} {ρ:uH->uB} {o:Oper} {P:uG} {w w':uC} {x:Next} (hr:(execOp ρ o).run P w=.ok x w') (hx:∀ d,x≠.defer d):Oper.semAt ro ρ o=execOp ρ o:=by
 refine Oper.semAt_eq ro ρ o λc hc=>?_
 have:∀ {x:Next} {w':uC},(execOp ρ o).run P w=.ok x w'->∃ d,x=.defer d:=by
  intro x w' h
  simp only[execOp,hc,Sem.run_bind] at h
  cases h2:(resolve ρ c o.type).run P w with
  | halt a b=>rw[h2] at h;cases h
  | ok d w2=>rw[h2] at h;simp at h;exact ⟨d,h.1.symm⟩
 obtain ⟨d,hd⟩:=this hr
 exact hx d hd
section ops
variable {P:uG} {f:Ctx} {R:Ending->uC->Prop} {k:List Item} {tmps:uD uB} {w:uC} {ops:uD Oper} {i:Nat} {rest:List Nat} {o:Oper}
theorem put_eq (ds:O Deferred) (dst:J Tmp) (v:uB):Act.put ⟨tmps,ds⟩ dst v=⟨(Act.put ⟨tmps,[]⟩ dst v).tmps,ds⟩:=by cases dst<;>rfl
theorem xk (ds:O Deferred) (tmps:uD uB):Act.eval ⟨tmps,ds⟩=Act.eval ⟨tmps,[]⟩:=by funext x;cases x<;>rfl
theorem dv.value {v:uB} {w':uC} (ho:ops[i]?=some o) (hw:Region.wanted o (yielded ops tmps)=true)
  (hr:(execOp (Act.eval ⟨tmps,[]⟩) o).run P w=.ok (.value v) w') (h:dv P f R (.inRegion ops rest::k) (Act.put ⟨tmps,[]⟩ o.dst v).tmps w') :
  dv P f R (.inRegion ops (i::rest)::k) tmps w:=by
 refine dv.step (λcs=>?_) h
 have hg:=stepGR_op (P:=P) (b:=bf f) (a:=⟨tmps,f.ds⟩) (k:=k) (cs:=cs) (w:=w) (rest:=rest) ho hw
 rw[xk,xK hr (by simp)] at hg
 have JD:∀ v,((bf f).atR ⟨tmps,f.ds⟩ (.inRegion ops (i::rest)::k)).finish v=(bf f).atR (Act.put ⟨tmps,f.ds⟩ o.dst v) (.inRegion ops rest::k):=by
  intro v;rw[Frame.finish_atR,ho];rfl
 refine step_lone_go ?_
 rw[←put_eq,hg,←JD]
 simp[stepG.apply,hr]
theorem dv.skip {w':uC} (ho:ops[i]?=some o) (hw:Region.wanted o (yielded ops tmps)=true)
  (hr:(execOp (Act.eval ⟨tmps,[]⟩) o).run P w=.ok .skip w') (h:dv P f R (.inRegion ops rest::k) (Act.put ⟨tmps,[]⟩ o.dst undef).tmps w') :
  dv P f R (.inRegion ops (i::rest)::k) tmps w:=by
 refine dv.step (λcs=>?_) h
 have hg:=stepGR_op (P:=P) (b:=bf f) (a:=⟨tmps,f.ds⟩) (k:=k) (cs:=cs) (w:=w) (rest:=rest) ho hw
 rw[xk,xK hr (by simp)] at hg
 have JD:∀ v,((bf f).atR ⟨tmps,f.ds⟩ (.inRegion ops (i::rest)::k)).finish v=(bf f).atR (Act.put ⟨tmps,f.ds⟩ o.dst v) (.inRegion ops rest::k):=by
  intro v;rw[Frame.finish_atR,ho];rfl
 refine step_lone_go ?_
 rw[←put_eq,hg,←JD]
 simp[stepG.apply,hr]
theorem dv.rY (ho:ops[i]?=some o) (hw:Region.wanted o (yielded ops tmps)=false)
  (h:dv P f R (.inRegion ops rest::k) (Act.put ⟨tmps,[]⟩ o.dst undef).tmps w):dv P f R (.inRegion ops (i::rest)::k) tmps w:=by
 refine dv.step (λcs=>?_) h
 have hs:=stepR_op_skip (P:=P) (b:=bf f) (a:=⟨tmps,f.ds⟩) (k:=k) (cs:=cs) (w:=w) (ops:=ops) (i:=i) (rest:=rest) (by simp[ho];simpa using hw)
 simp only[ho,Option.bind_some] at hs
 rw[←put_eq]
 exact hs
theorem dv.call {f':FuncId} {args:uD uB} {w':uC} (ho:ops[i]?=some o) (hw:Region.wanted o (yielded ops tmps)=true)
  (hr:(execOp (Act.eval ⟨tmps,[]⟩) o).run P w=.ok (.enter f' args) w')
  (h:Calls P f' args w' λe w2=>∃ v,e=.returned v/\dv P f R (.inRegion ops rest::k) (Act.put ⟨tmps,[]⟩ o.dst v).tmps w2) :
  dv P f R (.inRegion ops (i::rest)::k) tmps w:=by
 intro cs
 have hg:=stepGR_op (P:=P) (b:=bf f) (a:=⟨tmps,f.ds⟩) (k:=k) (cs:=cs) (w:=w) (rest:=rest) ho hw
 rw[xk,xK hr (by simp)] at hg
 have JD:∀ v,((bf f).atR ⟨tmps,f.ds⟩ (.inRegion ops (i::rest)::k)).finish v=(bf f).atR (Act.put ⟨tmps,f.ds⟩ o.dst v) (.inRegion ops rest::k):=by
  intro v;rw[Frame.finish_atR,ho];rfl
 obtain ⟨e,w2,fr,⟨v,rfl,hF⟩,Po,_,Pp⟩:=h ((bf f).atR ⟨tmps,f.ds⟩ (.inRegion ops (i::rest)::k)::cs)
 have Fv:Go.step P (lone ((bf f).atR ⟨tmps,f.ds⟩ (.inRegion ops (i::rest)::k)) cs w) =
   .next (lone (Frame.enter P f' args .normal) ((bf f).atR ⟨tmps,f.ds⟩ (.inRegion ops (i::rest)::k)::cs) w') :=
  step_lone_go (by rw[hg];simp[stepG.apply,hr,Frame.atR])
 obtain ⟨e,w3,WU,hR,hc,h1⟩:=hF cs
 refine ⟨e,w3,WU,hR,Comes.of_steps (.head Fv (Po.trans (.one ?_))) hc,h1⟩
 rw[←put_eq,←JD]
 exact step_leave_returned Pp
theorem dv.H5 (h:dv P f R k tmps w):dv P f R (.inRegion ops []::k) tmps w:=dv.step (λ_=>stepR_region_end) h
end ops
section control
variable {P:uG} {f:Ctx} {R:Ending->uC->Prop} {k:List Item} {tmps:uD uB} {w:uC}
theorem dv.seq {x y:Code} (h:dv P f R (.code x::.code y::k) tmps w):dv P f R (.code (.seq x y)::k) tmps w:=dv.step (λ_=>stepR_seq) h
theorem dv.RN (h:dv P f R k tmps w):dv P f R (.code .skip::k) tmps w:=dv.step (λ_=>stepR_skip) h
theorem dv.inBlock {id:Nat} (h:dv P f R k tmps w):dv P f R (.inBlock id::k) tmps w:=dv.step (λ_=>stepR_inBlock) h
theorem dv.block {id:Nat} {c:Code} (h:dv P f R (.code c::.inBlock id::k) tmps w):dv P f R (.code (.block id c)::k) tmps w:=dv.step (λ_=>stepR_block) h
theorem dv.loop {c:Code} (h:dv P f R (.code c::.inLoop c::k) tmps w):dv P f R (.code (.loop c)::k) tmps w:=dv.step (λ_=>stepR_loop) h
theorem dv.inLoop {c:Code} (h:dv P f R (.code c::.inLoop c::k) tmps w):dv P f R (.inLoop c::k) tmps w:=dv.step (λ_=>stepR_inLoop) h
theorem dv.exit {id:Nat} {k':O Item} (hk:exitTo id k=some k') (h:dv P f R k' tmps w):dv P f R (.code (.exit id)::k) tmps w:=dv.step (λ_=>stepR_exit hk) h
theorem dv.cond {c:uH} {x y:Code} {t:Bool} (hc:Act.eval ⟨tmps,[]⟩ c=.bool t) (h:dv P f R (.code (if t then x else y)::k) tmps w):dv P f R (.code (.cond c x y)::k) tmps w :=
 dv.step (λ_=>stepR_cond (by rw[xk];exact hc)) h
theorem dv.region {id:Nat} {ops:uD Oper} (h:dv P f R (.inRegion ops (List.range ops.size)::k) tmps w):dv P f R (.code (.region id ops false)::k) tmps w:=dv.step (λ_=>stepR_region) h
theorem dv.tP {id:Nat} {ops:uD Oper} (h:∀ t,dv P f R (.inRegion ops (Region.schedule (P.follows .mixedOrders) ops t)::k) tmps { w with drawn:=w.drawn+1 }) :
  dv P f R (.code (.region id ops true)::k) tmps w:=dv.step (λ_=>stepR_region_draw) (h _)
theorem dv.ret {f:FuncId} {fn:Func} {v:uB} (hf:P.funcs[f]?=some fn) (hr:(results fn tmps).run P w=.ok v w) (hR:R (.returned v) w):dv P (.of f) R (.code .ret::k) tmps w :=
 λcs=>⟨.returned v,w,_,hR,.one (stepR_ret rfl),rfl,rfl,rfl,rfl,fn,hf,hr⟩
theorem dv.fin {f:FuncId} {fn:Func} {v:uB} (hf:P.funcs[f]?=some fn) (hr:(results fn tmps).run P w=.ok v w) (hR:R (.returned v) w):dv P (.of f) R [] tmps w :=
 λcs=>⟨.returned v,w,_,hR,.one (stepR_end rfl),rfl,rfl,rfl,rfl,fn,hf,hr⟩
theorem dv.calls {f:FuncId} {fn:Func} {c:Code} {args:uD uB} (hf:P.funcs[f]?=some fn) (hb:fn.body=some c)
  (h:dv P (.of f) R [.code c] (args++Array.replicate (fn.ntmps-args.size) undef) w):Calls P f args w R:=by
 intro cs
 have Fv:Frame.enter P f args .normal=(bf (.of f)).atR ⟨args++Array.replicate (fn.ntmps-args.size) undef,[]⟩ [.code c]:=by
  simp[Frame.enter,Frame.atR,hf,hb,bf]
 obtain ⟨e,w',fr,hR,hc,h1,h2⟩:=h cs
 rw[←Fv] at hc
 exact ⟨e,w',fr,hR,hc,h1,h2⟩
end control
structure Step (base:Nat) (g:br) (w:uC) (st:St) (g':br) (w':uC) (st':St):Prop where
 du:qE g w st g' w' st'
 below:Below base w w'
 bl:∀ b,b<base->g'.bl b=g.bl b
 frame:∀ b,b<w.heap.size->¬ o7 g st b->w'.heap[b]?=w.heap[b]?/\g'.bl b=g.bl b
 fresh:∀ b,b<w.heap.size->o7 g' st' b->o7 g st b
theorem Step.refl (base:Nat) (g:br) (w:uC) (st:St):Step base g w st g w st:=⟨.refl _ _ _,.refl _ _,λ_ _=>rfl,λ_ _ _=>⟨rfl,rfl⟩,λ_ _ h=>h⟩
theorem Step.trans {base:Nat} {g1 g2 g3:br} {w1 w2 w3:uC} {s1 s2 s3:St} (h:Step base g1 w1 s1 g2 w2 s2) (k:Step base g2 w2 s2 g3 w3 s3):Step base g1 w1 s1 g3 w3 s3 :=
 ⟨h.du.trans k.du,h.below.trans k.below,λb hb=>(k.bl b hb).trans (h.bl b hb),
  λb hb hn=>have k1:=k.frame b (Nat.lt_of_lt_of_le hb h.du.bI.size) (λho=>hn (h.fresh b hb ho));have h1:=h.frame b hb hn;⟨k1.1.trans h1.1,k1.2.trans h1.2⟩,
  λb hb ho=>h.fresh b hb (k.fresh b (Nat.lt_of_lt_of_le hb h.du.bI.size) ho)⟩
theorem th.step {S:Start} {g g':br} {w w':uC} {st st':St} (h:th S g w st) (k:Step S.base g w st g' w' st'):th S g' w' st' :=
 ⟨h.du.trans k.du,h.below.trans k.below,λb hb=>(k.bl b hb).trans (h.bl b hb),
  λb hb hn=>have k1:=k.frame b (Nat.lt_of_lt_of_le hb h.du.bI.size) (λho=>hn (h.fresh b hb ho));have h1:=h.frame b hb hn;⟨k1.1.trans h1.1,k1.2.trans h1.2⟩,
  λb hb ho=>h.fresh b hb (k.fresh b (Nat.lt_of_lt_of_le hb h.du.bI.size) ho)⟩
theorem th.refl (S:Start):th S S.g S.w S.st:=⟨.refl _ _ _,.refl _ _,λ_ _=>rfl,λ_ _ _=>⟨rfl,rfl⟩,λ_ _ h=>h⟩
theorem th.toStep {S:Start} {g:br} {w:uC} {st:St} (h:th S g w st):Step S.base S.g S.w S.st g w st:=⟨h.du,h.below,h.bl,h.frame,h.fresh⟩
def ba (P:uG) (f:Ctx) (N:Nat) (S:Start) (Q:EV->St->Prop) (todo:List Item) (env:Env) (st:St):Prop :=
 ∀ g w tmps,Inv g S.base w st->th S g w st->cJ g w st env tmps->tmps.size=N->dv P f (pO S Q) todo tmps w
def cv:uB->D
 | .agg cs=>if cs.toList.all (·.oneCell') then .agg (cs.toList.map D.ex) else .ex (.agg cs)
 | v=>.ex v
theorem qG (bl:Nat->Nat) (w:uC) (v:uB):cT bl w (cv v) v:=by
 cases v<;>simp only[cv]<;>try exact .ex _
 rename_i cs
 split
 ·rename_i h
  refine .agg _ _ (by simp) ?_ ?_
  ·intro i u hu
   rw[List.all_eq_true] at h
   exact h u (by
    have:u∈cs:=Array.mem_of_getElem? hu
    simpa using this)
  ·intro i c u hc hu
   rw[List.getElem?_map] at hc
   have:cs.toList[i]?=some u:=by simpa using hu
   rw[this] at hc
   simp only[Option.map_some,Option.some.injEq] at hc
   subst hc
   exact .ex u
 ·exact .ex _
def bI (env:Env):uH->Option EV
 | .tmp t=>lookup t env
 | .const (.agg cs)=>match cs.toList.all (·.oneCell') with
  | true=>some (.d (.agg (cs.toList.map D.ex)))
  | false=>some (.d (.ex (.agg cs)))
 | .const v=>some (.d (.ex v))
 | .func f=>some (.d (.ex (.func (.func f) #[] #[])))
 | .global _=>none
theorem H6 (env:Env) (v:uB):bI env (.const v)=some (.d (cv v)):=by
 cases v<;>try rfl
 rename_i cs
 simp only[bI,cv]
 cases cs.toList.all (·.oneCell')<;>rfl
theorem aA {g:br} {w:uC} {st:St} {env:Env} {tmps:uD uB} (h:cJ g w st env tmps) {x:uH} {e:EV} (hx:bI env x=some e):bm g w st e (Act.eval ⟨tmps,[]⟩ x):=by
 cases x with
 | tmp t =>
  obtain ⟨v,h1,h2⟩:=h t e hx
  simp only[Act.eval,Array.getD_eq_getD_getElem?,h1,Option.getD_some]
  exact h2
 | const v =>
  rw[H6,Option.some.injEq] at hx
  subst hx
  exact .d _ _ (qG _ _ v)
 | func f =>
  simp only[bI,Option.some.injEq] at hx
  subst hx
  exact .d _ _ (.ex _)
 | «global» x=>simp[bI] at hx
section inv
variable {g:br} {w:uC} {st:St} {v:uB}
theorem bm.aZ {u:uB} (h:bm g w st (.d (.ex u)) v):v=u:=by
 cases h with|d _ _ h=>cases h;rfl
end inv
section control
variable {P:uG} {f:Ctx} {N:Nat} {S:Start} {Q:EV->St->Prop} {k:List Item} {env:Env} {st:St}
theorem ba.seq {x y:Code} (h:ba P f N S Q (.code x::.code y::k) env st):ba P f N S Q (.code (.seq x y)::k) env st:=λg w t a b c d=>.seq (h g w t a b c d)
theorem ba.skip (h:ba P f N S Q k env st):ba P f N S Q (.code .skip::k) env st:=λg w t a b c d=>.RN (h g w t a b c d)
theorem ba.inBlock {id:Nat} (h:ba P f N S Q k env st):ba P f N S Q (.inBlock id::k) env st:=λg w t a b c d=>.inBlock (h g w t a b c d)
theorem ba.block {id:Nat} {c:Code} (h:ba P f N S Q (.code c::.inBlock id::k) env st):ba P f N S Q (.code (.block id c)::k) env st:=λg w t a b c d=>.block (h g w t a b c d)
theorem ba.inLoop {c:Code} (h:ba P f N S Q (.code c::.inLoop c::k) env st):ba P f N S Q (.inLoop c::k) env st:=λg w t a b c d=>.inLoop (h g w t a b c d)
theorem ba.RO {c:Code} (h:ba P f N S Q (.code c::.inLoop c::k) env st):ba P f N S Q (.code (.loop c)::k) env st:=λg w t a b c d=>.loop (h g w t a b c d)
theorem ba.exit {id:Nat} {k':O Item} (hk:exitTo id k=some k') (h:ba P f N S Q k' env st):ba P f N S Q (.code (.exit id)::k) env st:=λg w t a b c d=>.exit hk (h g w t a b c d)
theorem ba.cond {c:uH} {x y:Code} {b:Bool} (hc:bI env c=some (.d (.ex (.bool b)))) (ht:b=true->ba P f N S Q (.code x::k) env st) (hf:b=false->ba P f N S Q (.code y::k) env st) :
  ba P f N S Q (.code (.cond c x y)::k) env st:=by
 intro g w t hi hh he hn
 refine dv.cond (t:=b) (aA he hc).aZ ?_
 cases b with
 | true=>exact ht rfl g w t hi hh he hn
 | false=>exact hf rfl g w t hi hh he hn
def dB (x y:EV):Prop:=∀ (g:br) (w:uC) (st:St) (v:uB),bm g w st x v->bm g w st y v
theorem dB.av (x:EV):dB x x:=λ_ _ _ _ h=>h
theorem dB.bX (sz:Nat) (rows:O (O D)) (t:Nat):dB (.bX sz rows t) (.d (.sl sz rows)):=λ_ _ _ v h=>by cases h with|bX _ _ _ _ _ _ hd _ _ _=>exact .d _ _ hd
theorem dB.nil (sz:Nat):dB (.d (.ex (.slice none 0 0))) (.d (.sl sz [])):=λ_ _ _ v h=>by cases h.aZ;exact .d _ _ (.nil sz _)
theorem D.GH {bl:Nat->Nat} {w:uC} {sz:Nat} {v:uB} (h:cT bl w (.e0 sz) v):cT bl w (.sl sz []) v:=by
 cases h with
 | e0 _ A h =>
  rcases h with rfl|⟨b,off,rfl⟩
  ·exact .nil sz _
  ·exact .sl sz [] b off 0 (Nat.le_refl _) (by simp) (by simp) (by simp)
theorem dB.e0 (sz:Nat):dB (.d (.e0 sz)) (.d (.sl sz [])):=λ_ _ _ v h=>by cases h with|d _ _ h=>exact .d _ _ (D.GH h)
def cL (env:Env):Env->Prop
 | []=>True
 | (i,y)::t=>(∃ x,lookup i env=some x/\dB x y)/\cL env t
theorem cL.get {env:Env}:∀ {env':Env},cL env env'->∀ i y,lookup i env'=some y->∃ x,lookup i env=some x/\dB x y
 | [],_,i,y,h=>by simp[lookup] at h
 | (j,z)::t,⟨⟨x,hx,hle⟩,ht⟩,i,y,h=>by
  unfold lookup at h
  cases hb:Nat.beq i j with
  | true =>
   rw[hb] at h
   simp only[Option.some.injEq] at h
   have:=Nat.eq_of_beq_eq_true hb
   subst this
   subst h
   exact ⟨x,hx,hle⟩
  | false =>
   rw[hb] at h
   exact ht.get i y h
theorem cJ.sub {g:br} {w:uC} {tmps:uD uB} {env env':Env} (h:cJ g w st env tmps) (hs:cL env env'):cJ g w st env' tmps:=by
 intro i y hy
 obtain ⟨x,hx,hle⟩:=hs.get i y hy
 obtain ⟨v,h1,h2⟩:=h i x hx
 exact ⟨v,h1,hle _ _ _ _ h2⟩
theorem ba.sub {todo:O Item} {env':Env} (hs:cL env env') (h:ba P f N S Q todo env' st):ba P f N S Q todo env st :=
 λg w t a b c d=>h g w t a b (c.sub hs) d
theorem ba.loop {c:Code} {ι:Type} (E:ι->Env) (T:ι->St) (I:ι->Prop) (μ:ι->Nat) (i0:ι) (h0:I i0) (hE:cL env (E i0)) (hT:st=T i0)
  (step:∀ i,I i->(∀ j,I j->μ j<μ i->ba P f N S Q (.inLoop c::k) (E j) (T j))->ba P f N S Q (.code c::.inLoop c::k) (E i) (T i)) :
  ba P f N S Q (.code (.loop c)::k) env st:=by
 have key:∀ n i,μ i<n->I i->ba P f N S Q (.code c::.inLoop c::k) (E i) (T i):=by
  intro n
  induction n with
  | zero=>intro i hi;omega
  | succ n ih =>
   intro i hi hI
   exact step i hI λj hj cd=>.inLoop (ih j (by omega) hj)
 subst hT
 exact .RO (.sub hE (key _ i0 (Nat.lt_succ_self _) h0))
theorem ba.join {todo:O Item} {ι:Type} (k':O Item) (E:ι->Env) (T:ι->St) (I:ι->Prop)
  (hk:∀ i,I i->ba P f N S Q k' (E i) (T i)) (h:(∀ i,I i->ba P f N S Q k' (E i) (T i))->ba P f N S Q todo env st):ba P f N S Q todo env st:=h hk
theorem ba.di {x y:Code} {ι:Type} (E:ι->Env) (T:ι->St) (I:ι->Prop)
  (hk:∀ i,I i->ba P f N S Q (.code y::k) (E i) (T i)) (h:(∀ i,I i->ba P f N S Q (.code y::k) (E i) (T i))->ba P f N S Q (.code x::.code y::k) env st) :
  ba P f N S Q (.code (.seq x y)::k) env st:=.seq (h hk)
theorem ba.RP {f:FuncId} {fn:Func} (hf:P.funcs[f]?=some fn) (hr:fn.results=#[]) (hQ:Q (.dp []) st):ba P (.of f) N S Q [] env st:=by
 intro g w tmps hi hh he hn
 refine dv.fin hf (results_none hr tmps P w) ⟨_,_,st,g,rfl,hQ,.dp _ _ rfl (by simp),hi,hh⟩
end control
def cn (P:uG) (f:Ctx) (N:Nat) (S:Start) (Q:EV->St->Prop) (ops rest:List Oper) (k:List Item) (env:Env) (st:St):Prop :=
 ∀ i,(∀ j:Nat,rest[j]?=ops[i+j]?)->ba P f N S Q (.inRegion ops.toArray (List.range' i rest.length)::k) env st
def Env.put (env:Env):Option Tmp->EV->Env
 | some d,x=>(d,x)::env
 | none,_=>env
def dZ (N:Nat):Option Tmp->Bool
 | some d=>Nat.ble (d+1) N
 | none=>true
theorem nU {g:br} {w:uC} {st:St} {env:Env} {tmps:uD uB} {d:J Tmp} {x:EV} {v:uB} (h:cJ g w st env tmps) (hd:dZ tmps.size d=true) (hv:bm g w st x v) :
  cJ g w st (env.put d x) (Act.put ⟨tmps,[]⟩ d v).tmps:=by
 cases d with
 | none=>exact h
 | some d=>exact h.put (Nat.le_of_ble_eq_true hd) hv
theorem fp {tmps:uD uB} {d:J Tmp} {v:uB}:(Act.put ⟨tmps,[]⟩ d v).tmps.size=tmps.size:=by
 cases d<;>simp[Act.put]
section regions
variable {P:uG} {f:Ctx} {N:Nat} {S:Start} {Q:EV->St->Prop} {k:List Item} {env:Env} {st:St} {ops rest:List Oper}
theorem ba.region {id:Nat} {l:O Oper} (h:cn P f N S Q l l k env st):ba P f N S Q (.code (.region id l.toArray false)::k) env st:=by
 intro g w t a b c d
 refine dv.region ?_
 have:=h 0 (by simp) g w t a b c d
 rw[List.range_eq_range']
 simpa using this
theorem cn.nil (h:ba P f N S Q k env st):cn P f N S Q ops [] k env st:=λi _ g w t a b c d=>.H5 (h g w t a b c d)
def tQ (P:uG) (base:Nat) (env:Env) (st:St) (o:Oper) (x:EV) (st':St):Prop :=
 ∀ g w tmps,Inv g base w st->cJ g w st env tmps->∃ v g' w',(execOp (Act.eval ⟨tmps,[]⟩) o).run P w=.ok (.value v) w'/\bm g' w' st' x v/\Inv g' base w' st'/\Step base g w st g' w' st'
def CN (P:uG) (base:Nat) (env:Env) (st:St) (o:Oper) (st':St):Prop :=
 ∀ g w tmps,Inv g base w st->cJ g w st env tmps->∃ g' w',(execOp (Act.eval ⟨tmps,[]⟩) o).run P w=.ok .skip w'/\Inv g' base w' st'/\Step base g w st g' w' st'
def az (P:uG) (env:Env) (st:St) (o:Oper) (x:EV):Prop :=
 ∀ g base w tmps,Inv g base w st->cJ g w st env tmps->∃ v,bm g w st x v/\∀ w',Below w.heap.size w w'->(execOp (Act.eval ⟨tmps,[]⟩) o).run P w'=.ok (.value v) w'
theorem az.v {base:Nat} {o:Oper} {x:EV} (h:az P env st o x):tQ P base env st o x st :=
 λg w t a b=>let ⟨v,h1,h2⟩:=h g base w t a b;⟨v,g,w,h2 w (.refl _ _),h1,a,.refl _ _ _ _⟩
theorem gi {i n:Nat}:List.range' i (n+1)=i::List.range' (i+1) n:=by rw[List.range'_succ]
theorem cn.op {o:Oper} {x:EV} {st':St} (hg:o.guard=none) (hd:dZ N o.dst=true) (h:tQ P S.base env st o x st') (hk:cn P f N S Q ops rest k (env.put o.dst x) st') :
  cn P f N S Q ops (o::rest) k env st:=by
 intro i hi g w tmps hinv hh he hn
 obtain ⟨v,g',w',hr,hx,cF,hs⟩:=h g w tmps hinv he
 have ho:ops.toArray[i]?=some o:=by simpa using (hi 0).symm
 have hw:Region.wanted o (yielded ops.toArray tmps)=true:=by simp[Region.wanted,hg]
 rw[List.length_cons,gi]
 refine dv.value ho hw hr ?_
 subst hn
 exact hk (i+1) (λj=>by have:=hi (j+1);simpa [Nat.add_assoc,Nat.add_comm 1 j] using this) g' w' _ cF (hh.step hs) (nU (he.mono hs.du) hd hx) fp
theorem cn.V5 {o:Oper} {st':St} (hg:o.guard=none) (hd:dZ N o.dst=true) (h:CN P S.base env st o st') (hk:cn P f N S Q ops rest k (env.put o.dst (.d .any)) st') :
  cn P f N S Q ops (o::rest) k env st:=by
 intro i hi g w tmps hinv hh he hn
 obtain ⟨g',w',hr,cF,hs⟩:=h g w tmps hinv he
 have ho:ops.toArray[i]?=some o:=by simpa using (hi 0).symm
 have hw:Region.wanted o (yielded ops.toArray tmps)=true:=by simp[Region.wanted,hg]
 rw[List.length_cons,gi]
 refine dv.skip ho hw hr ?_
 subst hn
 exact hk (i+1) (λj=>by have:=hi (j+1);simpa [Nat.add_assoc,Nat.add_comm 1 j] using this) g' w' _ cF (hh.step hs) (nU (he.mono hs.du) hd (.d _ _ (.any _))) fp
end regions
section q
variable {P:uG} {env:Env} {st:St} {d:Option Tmp} {ty:uE} {pos:String} {after:uD Edge} {gd:Option (Nat×Bool)}
theorem cg {x:uH} {e:EV} (hx:bI env x=some e):az P env st ⟨d,.move x,ty,pos,after,gd⟩ e :=
 λg base w tmps hi he=>⟨_,aA he hx,λ_ _=>rfl⟩
theorem JE {x:uH} {e:EV} (hx:bI env x=some e):az P env st ⟨d,.assign x,ty,pos,after,gd⟩ e :=
 λg base w tmps hi he=>⟨_,aA he hx,λ_ _=>rfl⟩
theorem j0 {o:Oper} {r:uB} (h:∀ g w tmps w',cJ g w st env tmps->(execOp (Act.eval ⟨tmps,[]⟩) o).run P w'=.ok (.value r) w'):az P env st o (.d (.ex r)) :=
 λg base w tmps hi he=>⟨r,.d _ _ (.ex r),λw' _=>h g w tmps w' he⟩
variable {t t2:uE} {x y:uH}
section two
variable {k:IntKind} {a b:Int} (hx:bI env x=some (.d (.ex (.int k a)))) (hy:bI env y=some (.d (.ex (.int k b))))
include hx hy
theorem OB:az P env st ⟨d,.binOp .lss t x y t2,ty,pos,after,gd⟩ (.d (.ex (.bool (decide (a<b))))):=j0 λg w tmps w' he=>by
 simp[execOp,(aA he hx).aZ,(aA he hy).aZ,eqGuard,binOp,Op.intCmp]
theorem GJ:az P env st ⟨d,.binOp .leq t x y t2,ty,pos,after,gd⟩ (.d (.ex (.bool (decide (a<=b))))):=j0 λg w tmps w' he=>by
 simp[execOp,(aA he hx).aZ,(aA he hy).aZ,eqGuard,binOp,Op.intCmp]
theorem JF:az P env st ⟨d,.binOp .gtr t x y t2,ty,pos,after,gd⟩ (.d (.ex (.bool (decide (a > b))))):=j0 λg w tmps w' he=>by
 simp[execOp,(aA he hx).aZ,(aA he hy).aZ,eqGuard,binOp,Op.intCmp]
theorem OC:az P env st ⟨d,.binOp .geq t x y t2,ty,pos,after,gd⟩ (.d (.ex (.bool (decide (a>=b))))):=j0 λg w tmps w' he=>by
 simp[execOp,(aA he hx).aZ,(aA he hy).aZ,eqGuard,binOp,Op.intCmp]
theorem OD:az P env st ⟨d,.binOp .eql t x y t2,ty,pos,after,gd⟩ (.d (.ex (.bool (a==b)))):=j0 λg w tmps w' he=>by
 simp[execOp,(aA he hx).aZ,(aA he hy).aZ,eqGuard,binOp,Op.intCmp]
theorem OE:az P env st ⟨d,.binOp .neq t x y t2,ty,pos,after,gd⟩ (.d (.ex (.bool (a != b)))):=j0 λg w tmps w' he=>by
 simp[execOp,(aA he hx).aZ,(aA he hy).aZ,eqGuard,binOp,Op.intCmp]
theorem xL {c:Int} (hc:k.wrap (a+b)=c):az P env st ⟨d,.binOp .add t x y t2,ty,pos,after,gd⟩ (.d (.ex (.int k c))):=j0 λg w tmps w' he=>by
 simp[execOp,(aA he hx).aZ,(aA he hy).aZ,eqGuard,binOp,Op.intArith,hc]
theorem OF {c:Int} (hc:k.wrap (a-b)=c):az P env st ⟨d,.binOp .sub t x y t2,ty,pos,after,gd⟩ (.d (.ex (.int k c))):=j0 λg w tmps w' he=>by
 simp[execOp,(aA he hx).aZ,(aA he hy).aZ,eqGuard,binOp,Op.intArith,hc]
theorem GK {c:Int} (hc:k.wrap (a*b)=c):az P env st ⟨d,.binOp .mul t x y t2,ty,pos,after,gd⟩ (.d (.ex (.int k c))):=j0 λg w tmps w' he=>by
 simp[execOp,(aA he hx).aZ,(aA he hy).aZ,eqGuard,binOp,Op.intArith,hc]
theorem CT {c:Int} (hb:b≠0) (hc:k.wrap (a.tdiv b)=c):az P env st ⟨d,.binOp .quo t x y t2,ty,pos,after,gd⟩ (.d (.ex (.int k c))):=j0 λg w tmps w' he=>by
 simp[execOp,(aA he hx).aZ,(aA he hy).aZ,eqGuard,binOp,Op.intDiv,hb,hc]
theorem CU {c:Int} (hb:b≠0) (hc:a.tmod b=c):az P env st ⟨d,.binOp .rem t x y t2,ty,pos,after,gd⟩ (.d (.ex (.int k c))):=j0 λg w tmps w' he=>by
 simp[execOp,(aA he hx).aZ,(aA he hy).aZ,eqGuard,binOp,Op.intDiv,hb,hc]
theorem JG {op:BinOp} {c:Int} (qH:op=.and∨op=.or∨op=.xor∨op=.andNot) (hc:∀ w,(Op.intBits op k a b).run P w=.ok (.int k c) w) :
  az P env st ⟨d,.binOp op t x y t2,ty,pos,after,gd⟩ (.d (.ex (.int k c))):=j0 λg w tmps w' he=>by
 rcases qH with rfl|rfl|rfl|rfl<;>simp[execOp,(aA he hx).aZ,(aA he hy).aZ,eqGuard,binOp,hc]
end two
section shift
variable {k k':IntKind} {a b:Int} (hx:bI env x=some (.d (.ex (.int k a)))) (hy:bI env y=some (.d (.ex (.int k' b))))
include hx hy
theorem JH {c:Int} (hb:0<=b) (hc:k.wrap (a*2 ^ (min b.toNat k.bits))=c):az P env st ⟨d,.binOp .shl t x y t2,ty,pos,after,gd⟩ (.d (.ex (.int k c))):=j0 λg w tmps w' he=>by
 have:¬ b<0:=by omega
 simp[execOp,(aA he hx).aZ,(aA he hy).aZ,eqGuard,binOp,Op.shift,this,hc]
theorem RQ {c:Int} (hb:0<=b) (hc:a.fdiv (2 ^ (min b.toNat k.bits))=c):az P env st ⟨d,.binOp .shr t x y t2,ty,pos,after,gd⟩ (.d (.ex (.int k c))):=j0 λg w tmps w' he=>by
 have:¬ b<0:=by omega
 simp[execOp,(aA he hx).aZ,(aA he hy).aZ,eqGuard,binOp,Op.shift,this,hc]
end shift
section strings
variable {a b:List uA} (hx:bI env x=some (.d (.ex (.string ⟨a.toArray⟩)))) (hy:bI env y=some (.d (.ex (.string ⟨b.toArray⟩))))
include hx hy
theorem Pq:az P env st ⟨d,.binOp .eql t x y t2,ty,pos,after,gd⟩ (.d (.ex (.bool (a==b)))):=j0 λg w tmps w' he=>by
 simp[execOp,(aA he hx).aZ,(aA he hy).aZ,eqGuard,binOp,Op.stringOp]
theorem Pr:az P env st ⟨d,.binOp .neq t x y t2,ty,pos,after,gd⟩ (.d (.ex (.bool (a != b)))):=j0 λg w tmps w' he=>by
 simp[execOp,(aA he hx).aZ,(aA he hy).aZ,eqGuard,binOp,Op.stringOp,bne]
theorem dM (h:a.length+b.length<=9223372036854775807):az P env st ⟨d,.binOp .add t x y t2,ty,pos,after,gd⟩ (.d (.ex (.string ⟨(a++b).toArray⟩))):=j0 λg w tmps w' he=>by
 have:=run_string_add_sum (P:=P) (w:=w') ⟨a.toArray⟩ ⟨b.toArray⟩ (by simpa [ByteArray.size] using h)
 simp[execOp,(aA he hx).aZ,(aA he hy).aZ,eqGuard,binOp,this,ByteArray.mk_append_mk]
end strings
theorem xM (ht:P.underlying t=some .bool) (a b:Bool) (n:Nat) (w:uC):(Op.equalIn (n+1) t (.bool a) (.bool b)).run P w=.ok (a==b) w:=by
 simp[Op.equalIn,run_underlying ht]
section bools
variable {a b:Bool} (hx:bI env x=some (.d (.ex (.bool a))))
include hx
theorem RR:az P env st ⟨d,.unOp .not t x,ty,pos,after,gd⟩ (.d (.ex (.bool (!a)))):=j0 λg w tmps w' he=>by
 simp[execOp,(aA he hx).aZ,Op.unary]
theorem JI (ht:P.underlying t=some .bool) (hy:bI env y=some (.d (.ex (.bool b)))):az P env st ⟨d,.binOp .eql t x y t2,ty,pos,after,gd⟩ (.d (.ex (.bool (a==b)))):=j0 λg w tmps w' he=>by
 have h:=xM ht a b 9999 w'
 simp[execOp,(aA he hx).aZ,(aA he hy).aZ,eqGuard,binOp,Op.equal,Op.maxDepth,h]
theorem Fw (ht:P.underlying t=some .bool) (hy:bI env y=some (.d (.ex (.bool b)))):az P env st ⟨d,.binOp .neq t x y t2,ty,pos,after,gd⟩ (.d (.ex (.bool (a != b)))):=j0 λg w tmps w' he=>by
 have h:=xM ht a b 9999 w'
 simp[execOp,(aA he hx).aZ,(aA he hy).aZ,eqGuard,binOp,Op.equal,Op.maxDepth,h,bne]
theorem H7 {z:uH} {b q:Bool} (hy:bI env y=some (.gd a (.d (.ex (.bool b))))) (hz:bI env z=some (.d (.ex (.bool q)))) :
  az P env st ⟨d,.pick x y z,ty,pos,after,gd⟩ (.d (.ex (.bool (if a=true then b else q)))):=j0 λg w tmps w' he=>by
 cases a with
 | false=>simp[execOp,(aA he hx).aZ,(aA he hz).aZ,asBool]
 | true =>
  have:=aA he hy
  cases this with
  | gd _ _ _ h0 h=>simp[execOp,(aA he hx).aZ,(h rfl).aZ,asBool]
theorem JJ {z:uH} {b q:Bool} (hy:bI env y=some (.d (.ex (.bool q)))) (hz:bI env z=some (.gd (!a) (.d (.ex (.bool b))))) :
  az P env st ⟨d,.pick x y z,ty,pos,after,gd⟩ (.d (.ex (.bool (if a=true then q else b)))):=j0 λg w tmps w' he=>by
 cases a with
 | true=>simp[execOp,(aA he hx).aZ,(aA he hy).aZ,asBool]
 | false =>
  have:=aA he hz
  cases this with
  | gd _ _ _ h0 h=>simp[execOp,(aA he hx).aZ,(h rfl).aZ,asBool]
end bools
theorem nV {k k':IntKind} {n c:Int} (hs:P.underlying t=some (.int k)) (ht:P.underlying t2=some (.int k')) (hx:bI env x=some (.d (.ex (.int k n)))) (hc:k'.wrap n=c) :
  az P env st ⟨d,.convert t t2 x,ty,pos,after,gd⟩ (.d (.ex (.int k' c))):=j0 λg w tmps w' he=>by
 simp[execOp,(aA he hx).aZ,convert,run_underlying hs,run_underlying ht,Conv.intToInt,hc]
theorem OG {k:IntKind} {n c:Int} (hx:bI env x=some (.d (.ex (.int k n)))) (hc:k.wrap (0-n)=c) :
  az P env st ⟨d,.unOp .neg t x,ty,pos,after,gd⟩ (.d (.ex (.int k c))):=j0 λg w tmps w' he=>by
 simp only[execOp,(aA he hx).aZ,Op.unary,Op.intArith,hc,Sem.run_bind,Sem.run_pure,Result.andThen_ok]
theorem ik {a:O uA} (ht:P.underlying t=some .string) (hx:bI env x=some (.d (.ex (.string ⟨a.toArray⟩)))) :
  az P env st ⟨d,.call ⟨.builtin .len,#[x],#[t]⟩,ty,pos,after,gd⟩ (.d (.ex (.int .i64 a.length))):=j0 λg w tmps w' he=>by
 simp[execOp,(aA he hx).aZ,resolve,invoke,builtin,Builtin.len_,run_underlying ht,goInt,ByteArray.size_mk']
theorem MF {e:uE} (ht:P.underlying t=some (.slice e)) {ρ:uH->uB} {A:J Addr} {n c:Nat} (hv:ρ x=.slice A n c) (w:uC) :
  (execOp ρ ⟨d,.call ⟨.builtin .len,#[x],#[t]⟩,ty,pos,after,gd⟩).run P w=.ok (.value (.int .i64 n)) w:=by
 simp[execOp,hv,resolve,invoke,builtin,Builtin.len_,run_underlying ht,goInt]
theorem Bv {bl:Nat->Nat} {w:uC} {sz:Nat} {rows:O (O D)} {v:uB} (h:cT bl w (.sl sz rows) v):∃ A c,v=.slice A rows.length c:=by
 cases h with
 | nil _ A=>exact ⟨A,0,rfl⟩
 | sl _ _ b off cap=>exact ⟨_,_,rfl⟩
theorem JK {a:O uA} {k:IntKind} {i:Int} {c:uA} (ht:P.underlying t=some .string) (hx:bI env x=some (.d (.ex (.string ⟨a.toArray⟩)))) (hy:bI env y=some (.d (.ex (.int k i))))
  (h0:0<=i) (hc:a[i.toNat]?=some c):az P env st ⟨d,.index t x y,ty,pos,after,gd⟩ (.d (.ex (.int .u8 (c.toNat:Int)))):=j0 λg w tmps w' he=>by
 have hl:i.toNat<a.length:=(List.getElem?_eq_some_iff.1 hc).1
 have hb:(⟨a.toArray⟩:ByteArray)[i.toNat]?=some c:=by
  rw[ByteArray.getElem?_lt' _ _ (by simpa [ByteArray.size] using hl)]
  have:=(List.getElem?_eq_some_iff.1 hc).2
  simpa [ByteArray.getElem_eq_getElem_data] using this
 simp[execOp,(aA he hx).aZ,(aA he hy).aZ,Instr.index,asIntOf,run_underlying ht,h0,hb]
theorem Az {e:uE} {ρ:uH->uB} {A:Addr} {n c:Nat} {k:IntKind} {i:Int} {inf:TypeInfo} (ht:P.underlying t=some (.slice e)) (hi:P.info? e=some inf)
  (hv:ρ x=.slice (some A) n c) (hy:ρ y=.int k i) (h0:0<=i) (hn:i<n) (w:uC) :
  (execOp ρ ⟨d,.indexAddr t x y,ty,pos,after,gd⟩).run P w=.ok (.value (.pointer (some (A.add (i.toNat*inf.size))))) w:=by
 simp[execOp,hv,hy,Instr.indexAt,asIntOf,run_underlying ht,sizeOf,typeInfo,hi,h0,hn]
theorem RS {bl:Nat->Nat} {w:uC} {sz:Nat} {rows:O (O D)} {v:uB} {n:Nat} {row:O D} (h:cT bl w (.sl sz rows) v) (hr:rows[n]?=some row) :
  ∃ b off c,v=.slice (some ⟨b,off,none⟩) rows.length c/\n<rows.length/\cT bl w (.ro row) (.pointer (some (Addr.add ⟨b,off,none⟩ (n*sz)))):=by
 cases h with
 | nil=>simp at hr
 | sl _ _ b off cap hc vL hx cX =>
  have hn:=(List.getElem?_eq_some_iff.1 hr).1
  refine ⟨b,off,cap,rfl,hn,?_⟩
  rw[Addr.add_lit]
  have hl:=vL row (List.mem_of_getElem? hr)
  refine .ro row b (off+n*sz) ?_ ?_
  ·intro j hj
   have:=hx (n*sz+j) (Bu hn (by omega))
   rw[Nat.add_assoc]
   exact this
  ·intro j c u hc hu
   rw[Nat.add_assoc] at hu
   exact cX n j row c u hr hc hu
theorem H8 (hd:∃ Ia,P.underlying t=some Ia/\(∀ fs,Ia≠.struct fs)/\(∀ n e,Ia≠.array n e)) (w:uC):(isAgg t).run P w=.ok false w:=by
 obtain ⟨Ia,h,h1,h2⟩:=hd
 simp only[isAgg,Sem.run_bind,run_underlying h,Result.andThen_ok]
 cases Ia<;>first|rfl|exact absurd rfl (h1 _)|exact absurd rfl (h2 _ _)
def jm:TypeDesc->Bool
 | .struct _|.array _ _=>false
 | _=>true
theorem rZ (h:(P.underlying t).map jm=some true) (w:uC):(isAgg t).run P w=.ok false w:=by
 cases hd:P.underlying t with
 | none=>rw[hd] at h;simp at h
 | some Ia =>
  refine H8 ⟨Ia,hd,?_,?_⟩ w
  ·intro fs e;subst e;rw[hd] at h;simp[jm] at h
  ·intro n e' e;subst e;rw[hd] at h;simp[jm] at h
theorem sX (h:(P.underlying t).map jm=some false) (w:uC):(isAgg t).run P w=.ok true w:=by
 cases hd:P.underlying t with
 | none=>rw[hd] at h;simp at h
 | some Ia =>
  rw[hd] at h
  cases Ia<;>simp[jm] at h<;>simp[isAgg,run_underlying hd]
theorem dN {cs:O D} {c:D} (h1:(P.underlying t).map jm=some true) (hx:bI env x=some (.d (.ro (c::cs)))):az P env st ⟨d,.load t x,ty,pos,after,gd⟩ (.d c):=λg base w tmps hinv he=>by
 have h:=aA he hx
 generalize hv:Act.eval ⟨tmps,[]⟩ x=v at h
 cases h with
 | d _ _ h =>
  cases h with
  | ro _ b off g4 hc =>
   obtain ⟨hl,u,hu,_⟩:=g4 0 (by simp)
   have pL:w.cell? ⟨b,off,none⟩=some u:=by simpa using hu
   refine ⟨u,.d _ _ (hc 0 c u rfl hu),λw' hb=>?_⟩
   have Us:w'.cell? ⟨b,off,none⟩=some u:=(hb.cell (World.block_lt_of_cell? w _ pL)).trans pL
   simp[execOp,hv,Instr.loadAt,Instr.sureAddr,loadVar,rZ h1,Us]
end q
theorem Inv.grow {g g':br} {base:Nat} {w w':uC} {st:St} (h:Inv g base w st) (hb:Below w.heap.size w w') (hl:∀ b,b<w.heap.size->g'.bl b=g.bl b) (ho:g'.ob=g.ob) (ht:g'.tk=g.tk) :
  Inv g' base w' st/\Step base g w st g' w' st:=by
 have hs:Step base g w st g' w' st:=by
  refine ⟨⟨⟨hb.size,λb gQ=>by rw[hl b gQ];exact Nat.le_refl _,λb off gQ _=>hb.cell (p:=⟨b,off,none⟩) gQ⟩,λ_ _=>by rw[ho],Nat.le_refl _,λt e sz n h=>⟨n,h,Nat.le_refl _,λ_=>by rw[ht]⟩,Nat.le_refl _,pN λt x' aY _ h _=>⟨h,by rw[ht]⟩⟩,hb.mono h.base,λb gQ=>hl b (Nat.lt_of_lt_of_le gQ h.base),
   λb gQ _=>⟨hb.block b gQ,hl b gQ⟩,λb _ hw=>by unfold o7 at hw ⊢;rw[ho,ht] at hw;exact hw⟩
 have cd:∀ (b:Nat) (x:Obj),w.heap[b]?=some x->b<w.heap.size:=λb x hx=>(Array.getElem?_eq_some_iff.1 hx).1
 have JL:∀ o x,st.aR[o]?=some (.raw x)->base<=g'.ob o/\g'.bl (g'.ob o)=0/\w'.heap[g'.ob o]?=some x:=by
  intro o x hx
  obtain ⟨h1,h2,h3⟩:=h.raw o x hx
  have jv:=cd _ _ h3
  rw[ho]
  exact ⟨h1,by rw[hl _ jv];exact h2,by rw[hb.block _ jv];exact h3⟩
 refine ⟨⟨Nat.le_trans h.base hb.size,?_,?_,JL,?_,?_,?_,?_,h.xJ.below hs.below,?_⟩,hs⟩
 ·intro o ty cs hx
  obtain ⟨h1,h2,vs,h3,h4,h5⟩:=h.row o ty cs hx
  have jv:=cd _ _ h3
  rw[ho]
  refine ⟨h1,by rw[hl _ jv];exact h2,vs,by rw[hb.block _ jv];exact h3,h4,λi c u hc hu=>⟨(h5 i c u hc hu).1.mono hs.du,(h5 i c u hc hu).2⟩⟩
 ·intro o es hx
  obtain ⟨h1,ms,clock,h3,h4,h5,h6,h7⟩:=h.map o es hx
  have jv:=cd _ _ h3
  rw[ho]
  exact ⟨h1,ms,clock,by rw[hb.block _ jv];exact h3,h4,λi k x m a b=>⟨(h5 i k x m a b).1,(h5 i k x m a b).2.mono hs.du⟩,h6,h7⟩
 ·rw[ho];exact h.ne
 ·intro t e sz n hx
  obtain ⟨xs,h1,h2⟩:=h.tail t e sz n hx
  rw[ht]
  refine ⟨xs,?_,λb gQ=>?_⟩
  ·obtain ⟨k1,k2⟩:=h1
   refine ⟨k1,?_⟩
   rcases k2 with k2|⟨gb,cap,cur,e1,e2,e3,e4⟩
   ·exact .inl k2
   ·exact .inr ⟨gb,cap,cur,e1,e2,by rw[hb.block _ (cd _ _ e3)];exact e3,e4⟩
  ·rw[hl b (h1.lt b gQ).2];exact h2 b gQ
 ·rw[ht];exact h.km
 ·rw[ht,ho];exact h.eD
 ·intro t e sz n rows hx
  obtain ⟨xs,h1,h2,h3⟩:=h.own t e sz n rows hx
  rw[ht]
  exact ⟨xs,dc h1 λb gQ=>hb.block b (h1.lt b gQ).2,λb gQ=>by rw[hl b (h1.lt b gQ).2];exact h2 b gQ,h3.mono hs.du.bI⟩
def GM (g:br) (w:uC) (st:St) (args:List EV) (vs:uD uB):Prop :=
 vs.size=args.length/\∀ (i:Nat) x v,args[i]?=some x->vs[i]?=some v->bm g w st x v
def eg (P:uG) (f:FuncId) (args:List EV) (st:St) (Q:EV->St->Prop):Prop :=
 ∀ g w base vs,Inv g base w st->GM g w st args vs->Calls P f vs w (pO ⟨g,w,st,base⟩ Q)
def JM (bl:Nat->Nat) (w:uC) (args:List D) (vs:uD uB):Prop :=
 vs.size=args.length/\∀ (i:Nat) x v,args[i]?=some x->vs[i]?=some v->cT bl w x v
def aB (P:uG) (f:FuncId) (args:List D) (q:D->Prop):Prop :=
 ∀ bl w vs,uL w.heap.size w->JM bl w args vs->Calls P f vs w λe w'=>∃ v r b9,e=.returned v/\q r/\cT b9 w' r v/\Fl bl w b9 w'/\Below w.heap.size w w'/\∀ b,b<w.heap.size->b9 b=bl b
def vM:Nat->List EV->Env
 | _,[]=>[]
 | i,x::l=>(i,x)::vM (i+1) l
theorem tz:∀ (l:O EV) (i j:Nat) (y:EV),lookup j (vM i l)=some y->∃ k,j=i+k/\l[k]?=some y
 | [],i,j,y,h=>by simp[vM,lookup] at h
 | x::l,i,j,y,h=>by
  unfold vM lookup at h
  cases hb:Nat.beq j i with
  | true =>
   rw[hb] at h
   simp only[Option.some.injEq] at h
   exact ⟨0,Nat.eq_of_beq_eq_true hb,by simp[h]⟩
  | false =>
   rw[hb] at h
   obtain ⟨k,h1,h2⟩:=tz l (i+1) j y h
   exact ⟨k+1,by omega,by simpa using h2⟩
section enter
variable {P:uG} {f:FuncId} {fn:Func} {c:Code} {N:Nat}
theorem eg.enter {args:O EV} {st:St} {Q:EV->St->Prop} (hf:P.funcs[f]?=some fn) (hb:fn.body=some c) (hN:fn.ntmps=N) (hl:Nat.ble args.length N=true)
  (h:∀ S:Start,S.st=st->ba P (.of f) N S Q [.code c] (vM 0 args) st):eg P f args st Q:=by
 intro g w base vs hi ha
 have MG:=Nat.le_of_ble_eq_true hl
 have iW:=ha.1
 refine dv.calls hf hb ?_
 refine h ⟨g,w,st,base⟩ rfl g w _ hi (th.refl ⟨g,w,st,base⟩) ?_ (by simp[hN];omega)
 intro j y hy
 obtain ⟨k,rfl,hk⟩:=tz args 0 j y hy
 have CV:=(List.getElem?_eq_some_iff.1 hk).1
 refine ⟨vs[k]'(by omega),?_,ha.2 k y _ hk (by simp[iW,CV])⟩
 rw[Nat.zero_add,Array.getElem?_append_left (by omega)]
 simp[iW,CV]
def QD (q:D->Prop) (r:EV) (_:St):Prop:=∃ x,dB r (.d x)/\q x
theorem aB.of {args:O D} {q:D->Prop} (h:eg P f (args.map EV.d) ⟨[],[]⟩ (QD q)):aB P f args q:=by
 intro bl w vs JN ha
 have hinv:Inv ⟨bl,λ_=>0,λ_=>.nilFunc⟩ w.heap.size w ⟨[],[]⟩ :=
  ⟨Nat.le_refl _,λo ty cs h=>by simp at h,λo es h=>by simp at h,λo x h=>by simp at h,λo o' _ ⟨x,h,_⟩=>by simp at h,λt e sz n h=>by simp at h,λt t' x x' b _ h=>by simp at h,λt x o h=>by simp at h,JN,λt e sz n rows h=>by simp at h⟩
 refine (h _ w w.heap.size vs hinv ⟨by simpa using ha.1,λi x v hx hv=>?_⟩).mono ?_
 ·rw[List.getElem?_map] at hx
  cases hy:args[i]? with
  | none=>rw[hy] at hx;simp at hx
  | some y =>
   rw[hy] at hx
   simp only[Option.map_some,Option.some.injEq] at hx
   subst hx
   exact .d _ _ (ha.2 i y v hy hv)
 ·rintro e w' ⟨v,r,st',g',rfl,⟨x,hle,hq⟩,hr,hi',hh⟩
  cases hle _ _ _ _ hr with
  | d _ _ hd=>exact ⟨v,x,g'.bl,rfl,hq,hd,hh.du.bI,hh.below,hh.bl⟩
end enter
def xN (env:Env):List uH->Option (List EV)
 | []=>some []
 | x::l=>match bI env x,xN env l with
  | some e,some r=>some (e::r)
  | _,_=>none
theorem r3 {g:br} {w:uC} {st:St} {env:Env} {tmps:uD uB} (h:cJ g w st env tmps):∀ (l:O uH) (es:O EV),xN env l=some es ->
  l.length=es.length/\∀ (i:Nat) e v,es[i]?=some e->(l.map (Act.eval ⟨tmps,[]⟩))[i]?=some v->bm g w st e v
 | [],es,hx=>by simp[xN] at hx;subst hx;simp
 | x::l,es,hx=>by
  unfold xN at hx
  split at hx
  ·rename_i e r h1 h2
   simp only[Option.some.injEq] at hx
   subst hx
   obtain ⟨k1,k2⟩:=r3 h l r h2
   refine ⟨by simp[k1],λi e' v he hv=>?_⟩
   cases i with
   | zero =>
    simp at he hv
    subst he;subst hv
    exact aA h h1
   | succ i=>exact k2 i e' v (by simpa using he) (by simpa using hv)
  ·cases hx
def Ut:EV->Option D
 | .d x=>some x
 | .bX sz rows _=>some (.sl sz rows)
 | _=>none
theorem Ps {e:EV} {x:D} (h:Ut e=some x):dB e (.d x):=by
 cases e<;>simp[Ut] at h
 ·subst h;exact .av _
 ·subst h;exact .bX _ _ _
def Ib:List EV->Option (List D)
 | []=>some []
 | e::l=>match Ut e,Ib l with
  | some x,some r=>some (x::r)
  | _,_=>none
theorem CW:∀ (es:O EV) (ds:O D),Ib es=some ds->es.length=ds.length/\∀ (i:Nat) d,ds[i]?=some d->∃ e,es[i]?=some e/\dB e (.d d)
 | [],ds,h=>by simp[Ib] at h;subst h;simp
 | e::l,ds,h=>by
  unfold Ib at h
  split at h
  ·rename_i x r h1 h2
   simp only[Option.some.injEq] at h
   subst h
   obtain ⟨k1,k2⟩:=CW l r h2
   refine ⟨by simp[k1],λi d hd=>?_⟩
   cases i with
   | zero=>simp at hd;subst hd;exact ⟨e,rfl,Ps h1⟩
   | succ i=>simpa using k2 i d (by simpa using hd)
  ·cases h
section call
variable {P:uG} {f:Ctx} {N:Nat} {S:Start} {Q:EV->St->Prop} {k:List Item} {env:Env} {st:St} {ops rest:List Oper}
 {d:Option Tmp} {ty:uE} {pos:String} {after:uD Edge}
def Enters (P:uG) (f:FuncId):Prop:=∃ fn,P.funcs[f]?=some fn/\(fn.name == "runtime.NumGoroutine")=false/\fn.body.isNone=false
theorem uM {f':FuncId} (h:Enters P f') (args:uD uB) (w:uC):(callFunc f' args).run P w=.ok (.enter f' args) w:=by
 obtain ⟨fn,h1,h2,h3⟩:=h
 have CX:fn.name ≠ "runtime.NumGoroutine" := by simpa using h2
 have Pt:fn.body≠none:=by intro e;rw[e] at h3;cases h3
 simp[callFunc,h1,CX,Pt]
theorem AA {f':FuncId} {l:O uH} {ts:uD uE} {ρ:uH->uB} (h:Enters P f') (w:uC) (hf:ρ (.func f')=.func (.func f') #[] #[]) {gd:J (Nat×Bool)} :
  (execOp ρ ⟨d,.call ⟨.value (.func f'),l.toArray,ts⟩,ty,pos,after,gd⟩).run P w=.ok (.enter f' (l.map ρ).toArray) w:=by
 simp[execOp,resolve,hf,Deferred.ofValue,invoke,uM h]
theorem Ic {f':FuncId} {l:O uH} {ts:uD uE} {ρ:uH->uB} {x:uH} {vs:uD uB} (h:Enters P f') (w:uC) (hf:ρ x=.func (.func f') #[] vs) {gd:J (Nat×Bool)} :
  (execOp ρ ⟨d,.call ⟨.value x,l.toArray,ts⟩,ty,pos,after,gd⟩).run P w=.ok (.enter f' ((l.map ρ).toArray++vs)) w:=by
 simp[execOp,resolve,hf,Deferred.ofValue,invoke,uM h]
theorem JM.of {g:br} {w:uC} {tmps:uD uB} {l:O uH} {es:O EV} {ds:O D} (he:cJ g w st env tmps) (h1:xN env l=some es) (h2:Ib es=some ds) :
  JM g.bl w ds (l.map (Act.eval ⟨tmps,[]⟩)).toArray:=by
 obtain ⟨k1,k2⟩:=r3 he l es h1
 obtain ⟨m1,m2⟩:=CW es ds h2
 refine ⟨by simp[k1,m1],λi x v hx hv=>?_⟩
 obtain ⟨e,rX,hle⟩:=m2 i x hx
 cases hle _ _ _ _ (k2 i e v rX (by simpa using hv)) with
 | d _ _ h=>exact h
theorem cn.RT {f':FuncId} {l:O uH} {ts:uD uE} {es:O EV} {q:EV->St->Prop} (GN:Enters P f') (hd:dZ N d=true) (h1:xN env l=some es)
  (hc:eg P f' es st q) (hk:∀ x st',q x st'->cn P f N S Q ops rest k (env.put d x) st') :
  cn P f N S Q ops (⟨d,.call ⟨.value (.func f'),l.toArray,ts⟩,ty,pos,after,none⟩::rest) k env st:=by
 intro i hi g w tmps hinv hh he hn
 have ho:ops.toArray[i]?=some ⟨d,.call ⟨.value (.func f'),l.toArray,ts⟩,ty,pos,after,none⟩:=by simpa using (hi 0).symm
 rw[List.length_cons,gi]
 refine dv.call ho (by simp[Region.wanted]) (AA GN w rfl) ?_
 obtain ⟨k1,k2⟩:=r3 he l es h1
 refine (hc g w S.base _ hinv ⟨by simp[k1],λj x v hx hv=>k2 j x v hx (by simpa using hv)⟩).mono ?_
 rintro e w' ⟨v,r,st',g',rfl,hq,hr,cF,Jx⟩
 have hs:Step S.base g w st g' w' st':=Jx.toStep
 subst hn
 exact ⟨v,rfl,hk r st' hq (i+1) (λj=>by have:=hi (j+1);simpa [Nat.add_assoc,Nat.add_comm 1 j] using this) g' w' _ cF (hh.step hs) (nU (he.mono hs.du) hd hr) fp⟩
theorem cn.RU {f':FuncId} {l:O uH} {ts:uD uE} {es cs:O EV} {x:uH} {q:EV->St->Prop} (GN:Enters P f') (hd:dZ N d=true) (hx:bI env x=some (.xj f' cs)) (h1:xN env l=some es)
  (hc:eg P f' (es++cs) st q) (hk:∀ x st',q x st'->cn P f N S Q ops rest k (env.put d x) st') :
  cn P f N S Q ops (⟨d,.call ⟨.value x,l.toArray,ts⟩,ty,pos,after,none⟩::rest) k env st:=by
 intro i hi g w tmps hinv hh he hn
 have ho:ops.toArray[i]?=some ⟨d,.call ⟨.value x,l.toArray,ts⟩,ty,pos,after,none⟩:=by simpa using (hi 0).symm
 rw[List.length_cons,gi]
 have V6:=aA he hx
 generalize vN:Act.eval ⟨tmps,[]⟩ x=val at V6
 cases V6 with
 | xj _ _ vs zV AB =>
 refine dv.call ho (by simp[Region.wanted]) (Ic GN w vN) ?_
 obtain ⟨k1,k2⟩:=r3 he l es h1
 have Uu:GM g w st (es++cs) ((l.map (Act.eval ⟨tmps,[]⟩)).toArray++vs):=by
  refine ⟨by simp[k1,zV],λj y v hy hv=>?_⟩
  by_cases hj:j<es.length
  ·rw[List.getElem?_append_left hj] at hy
   rw[Array.getElem?_append_left (by simpa [k1] using hj)] at hv
   exact k2 j y v hy (by simpa using hv)
  ·rw[List.getElem?_append_right (by omega)] at hy
   rw[Array.getElem?_append_right (by simp[k1];omega)] at hv
   exact AB (j-es.length) y v hy (by simpa [k1] using hv)
 refine (hc g w S.base _ hinv Uu).mono ?_
 rintro e w' ⟨v,r,st',g',rfl,hq,hr,cF,Jx⟩
 have hs:Step S.base g w st g' w' st':=Jx.toStep
 subst hn
 exact ⟨v,rfl,hk r st' hq (i+1) (λj=>by have:=hi (j+1);simpa [Nat.add_assoc,Nat.add_comm 1 j] using this) g' w' _ cF (hh.step hs) (nU (he.mono hs.du) hd hr) fp⟩
end call
def St.set (st:St) (o:Nat) (x:fm):St:=⟨st.aR.set o x,st.al⟩
def St.add (st:St) (x:fm):St:=⟨st.aR++[x],st.al⟩
def St.tok (st:St) (x:fZ):St:=⟨st.aR,st.al++[x]⟩
def St.a8 (st:St) (t:Nat) (x:fZ):St:=⟨st.aR,st.al.set t x⟩
theorem zW {bl b9:Nat->Nat} {w w':uC} (hs:w.heap.size<=w'.heap.size) (h:∀ b,b<w.heap.size->bl b<=b9 b/\(bl b=0∨w'.heap[b]?=w.heap[b]?)):Fl bl w b9 w' :=
 ⟨hs,λb hb=>(h b hb).1,λb off hb ho=>by
  rcases (h b hb).2 with h2|h2
  ·omega
  ·exact World.cell?_of_block (w:=w) (a:=⟨b,off,none⟩) h2⟩
section inv
variable {g:br} {base:Nat} {w:uC} {st:St}
theorem Inv.qI (h:Inv g base w st) {o:Nat} (hl:st.live o):g.ob o<w.heap.size/\base<=g.ob o:=by
 obtain ⟨x,hx,dq⟩:=hl
 cases x with
 | row ty cs =>
  obtain ⟨h1,h2,vs,h3,_⟩:=h.row o ty cs hx
  exact ⟨(Array.getElem?_eq_some_iff.1 h3).1,h1⟩
 | map es =>
  obtain ⟨h1,ms,c,h3,_⟩:=h.map o es hx
  exact ⟨(Array.getElem?_eq_some_iff.1 h3).1,h1⟩
 | raw y =>
  obtain ⟨h1,_,h3⟩:=h.raw o y hx
  exact ⟨(Array.getElem?_eq_some_iff.1 h3).1,h1⟩
 | gone=>exact absurd rfl dq
theorem mE {st:St} {o o':Nat} {x:fm} (ho:st.live o) (h:(st.set o x).live o'):st.live o':=by
 obtain ⟨y,hy,dq⟩:=h
 simp only[St.set,List.getElem?_set] at hy
 split at hy
 ·rename_i e
  subst e
  exact ho
 ·exact ⟨y,hy,dq⟩
theorem Inv.setBlock (h:Inv g base w st) {o:Nat} (hl:st.live o) {w':uC} {x:fm} (tR:g.bl (g.ob o)=0) (iW:w'.heap.size=w.heap.size) (rP:∀ b,b≠g.ob o->w'.heap[b]?=w.heap[b]?)
  (JO:w'.os=w.os) (Uv:w'.tape=w.tape) (Pu:w'.output=w.output)
  (vL:qE g w st g w' (st.set o x)->∀ ty cs,x=.row ty cs->∃ vs:uD uB,w'.heap[g.ob o]?=some (.cells vs ty (0,0))/\vs.size=cs.length/\∀ (i:Nat) c u,cs[i]?=some c->vs[i]?=some u->bm g w' (st.set o x) c u/\u.oneCell'=true)
  (Pv:qE g w st g w' (st.set o x)->∀ es,x=.map es->∃ (ms:uD MapEntry) (clock:Nat),w'.heap[g.ob o]?=some (.map ms clock)/\ms.size=es.length /\
   (∀ (i:Nat) k y (m:MapEntry),es[i]?=some (k,y)->ms[i]?=some m->m.key=k/\bm g w' (st.set o x) y m.val) /\
   (∀ (i:Nat) (m:MapEntry),ms[i]?=some m->m.born<clock) /\
   (∀ (i j:Nat) (m m':MapEntry),ms[i]?=some m->ms[j]?=some m'->m.born=m'.born->i=j))
  (JL:∀ y,x=.raw y->w'.heap[g.ob o]?=some y:=by (intro y hy;cases hy)) :
  Inv g base w' (st.set o x)/\Step base g w st g w' (st.set o x):=by
 obtain ⟨cd,wE⟩:=h.qI hl
 have iX:Below base w w':=⟨JO,Uv,Pu,by omega,λk hk=>rP k (by omega)⟩
 have hs:qE g w st g w' (st.set o x):=by
  refine ⟨zW (by omega) (λb hb=>⟨Nat.le_refl _,?_⟩),λ_ _=>rfl,by simp[St.set],λt e sz n ht=>⟨n,ht,Nat.le_refl _,λ_=>rfl⟩,Nat.le_refl _,pN λ_ _ _ _ h _=>⟨h,rfl⟩⟩
  by_cases gQ:b=g.ob o
  ·subst gQ;exact .inl tR
  ·exact .inr (rP b gQ)
 have Pw:o<st.aR.length:=by obtain ⟨y,hy,_⟩:=hl;exact (List.getElem?_eq_some_iff.1 hy).1
 have eh:∀ o' y,o'≠o->(st.set o x).aR[o']?=some y->st.aR[o']?=some y:=by
  intro o' y dq hy
  simpa [St.set,List.getElem?_set,Ne.symm dq] using hy
 have Mv:∀ o' y,(st.set o x).aR[o']?=some (.raw y)->base<=g.ob o'/\g.bl (g.ob o')=0/\w'.heap[g.ob o']?=some y:=by
  intro o' y hx
  by_cases ho:o'=o
  ·subst ho
   have g4:x=.raw y:=by simpa [St.set,List.getElem?_set,Pw] using hx
   exact ⟨wE,tR,JL y g4⟩
  ·have hy:=eh o' _ ho hx
   obtain ⟨h1,h2,h3⟩:=h.raw o' y hy
   have dq:=h.ne o' o ho ⟨_,hy,by simp⟩ hl
   exact ⟨h1,h2,by rw[rP _ dq];exact h3⟩
 refine ⟨⟨by rw[iW];exact h.base,?_,?_,Mv,?_,?_,?_,?_,h.xJ.below iX,?_⟩,⟨hs,iX,λ_ _=>rfl,λb _ hn=>⟨rP b (λe=>hn (.inl ⟨o,hl,e.symm⟩)),rfl⟩,λb _ hw=>by
  rcases hw with ⟨o',h1,h2⟩|h1
  ·exact .inl ⟨o',mE hl h1,h2⟩
  ·exact .inr h1⟩⟩
 ·intro o' ty cs hx
  by_cases ho:o'=o
  ·subst ho
   have g4:x=.row ty cs:=by simpa [St.set,List.getElem?_set,Pw] using hx
   obtain ⟨vs,h1,h2,h3⟩:=vL hs ty cs g4
   exact ⟨wE,tR,vs,h1,h2,h3⟩
  ·have hy:=eh o' _ ho hx
   obtain ⟨h1,h2,vs,h3,h4,h5⟩:=h.row o' ty cs hy
   have dq:=h.ne o' o ho ⟨_,hy,by simp⟩ hl
   exact ⟨h1,h2,vs,by rw[rP _ dq];exact h3,h4,λi c u hc hu=>⟨(h5 i c u hc hu).1.mono hs,(h5 i c u hc hu).2⟩⟩
 ·intro o' es hx
  by_cases ho:o'=o
  ·subst ho
   have g4:x=.map es:=by simpa [St.set,List.getElem?_set,Pw] using hx
   obtain ⟨ms,c,h1,h2,h3⟩:=Pv hs es g4
   exact ⟨wE,ms,c,h1,h2,h3⟩
  ·have hy:=eh o' _ ho hx
   obtain ⟨h1,ms,c,h3,h4,h5,h6⟩:=h.map o' es hy
   have dq:=h.ne o' o ho ⟨_,hy,by simp⟩ hl
   exact ⟨h1,ms,c,by rw[rP _ dq];exact h3,h4,λi k y m a b=>⟨(h5 i k y m a b).1,(h5 i k y m a b).2.mono hs⟩,h6⟩
 ·exact λo1 o2 dq h1 h2=>h.ne o1 o2 dq (mE hl h1) (mE hl h2)
 ·intro t e sz n ht
  obtain ⟨xs,h1,h2⟩:=h.tail t e sz n ht
  refine ⟨xs,?_,h2⟩
  obtain ⟨k1,k2⟩:=h1
  refine ⟨k1,?_⟩
  rcases k2 with k2|⟨gb,cap,cur,e1,e2,e3,e4⟩
  ·exact .inl k2
  ·refine .inr ⟨gb,cap,cur,e1,e2,?_,e4⟩
   rw[rP gb ?_]
   ·exact e3
   ·intro Uw
    subst Uw
    exact h.eD t _ o ht hl (by rw[e1];rfl)
 ·exact h.km
 ·exact λt x' o' ht MG=>h.eD t x' o' ht (mE hl MG)
 ·intro t e sz n rows ht
  obtain ⟨xs,h1,h2,h3⟩:=h.own t e sz n rows ht
  exact ⟨xs,dc h1 λb gQ=>rP b λUw=>h.eD t _ o ht hl (by rw[gQ,Uw]),h2,h3.mono hs.bI⟩
theorem Inv.newObj (h:Inv g base w st) (x:fm) (b:Obj)
  (vL:∀ ty cs,x=.row ty cs->∃ vs:uD uB,b=.cells vs ty (0,0)/\vs.size=cs.length/\∀ (i:Nat) c u,cs[i]?=some c->vs[i]?=some u->bm g w st c u/\u.oneCell'=true)
  (Pv:∀ es,x=.map es->es=[]/\b=.map #[] 0)
  (JL:∀ y,x=.raw y->b=y:=by (intro y hy;cases hy)) :
  ∃ g',Inv g' base (w.alloc b) (st.add x)/\Step base g w st g' (w.alloc b) (st.add x)/\g'.ob st.aR.length=w.heap.size:=by
 let g':br:=⟨λk=>if k=w.heap.size then 0 else g.bl k,λo=>if o=st.aR.length then w.heap.size else g.ob o,g.tk⟩
 have iX:Below w.heap.size w (w.alloc b):=(Below.refl _ w).alloc (Nat.le_refl _) b
 have tS:∀ k,k<w.heap.size->g'.bl k=g.bl k:=λk hk=>by show (if k=w.heap.size then 0 else g.bl k)=_;rw[if_neg (by omega)]
 have tA:∀ o,o<st.aR.length->g'.ob o=g.ob o:=λo ho=>by show (if o=st.aR.length then _ else g.ob o)=_;rw[if_neg (by omega)]
 have r4:g'.ob st.aR.length=w.heap.size:=by show (if _=st.aR.length then _ else _)=_;rw[if_pos rfl]
 have hs:qE g w st g' (w.alloc b) (st.add x):=by
  refine ⟨⟨by simp,λk hk=>by rw[tS k hk];exact Nat.le_refl _,λk off hk _=>iX.cell (p:=⟨k,off,none⟩) hk⟩,tA,by simp[St.add],λt e sz n ht=>⟨n,ht,Nat.le_refl _,λ_=>rfl⟩,Nat.le_refl _,pN λ_ _ _ _ h _=>⟨h,rfl⟩⟩
 have hold:∀ o y,o<st.aR.length->(st.add x).aR[o]?=some y->st.aR[o]?=some y:=by
  intro o y ho hy
  simpa [St.add,List.getElem?_append_left ho] using hy
 have nX:∀ o y,(st.add x).aR[o]?=some y->¬ o<st.aR.length->o=st.aR.length/\y=x:=by
  intro o y hy ho
  have cd:=(List.getElem?_eq_some_iff.1 hy).1
  simp[St.add] at cd
  have:o=st.aR.length:=by omega
  subst this
  simpa [St.add,eq_comm] using hy
 have pP:∀ o,o<st.aR.length->(st.add x).live o->st.live o:=λo ho ⟨y,hy,dq⟩=>⟨y,hold o y ho hy,dq⟩
 have CY:(w.alloc b).heap[w.heap.size]?=some b:=heap_alloc_new w b
 have Mv:∀ o y,(st.add x).aR[o]?=some (.raw y)->base<=g'.ob o/\g'.bl (g'.ob o)=0/\(w.alloc b).heap[g'.ob o]?=some y:=by
  intro o y hx
  by_cases ho:o<st.aR.length
  ·obtain ⟨h1,h2,h3⟩:=h.raw o y (hold o _ ho hx)
   have cd:=(Array.getElem?_eq_some_iff.1 h3).1
   rw[tA o ho,tS _ cd,iX.block _ cd]
   exact ⟨h1,h2,h3⟩
  ·obtain ⟨rfl,RV⟩:=nX o _ hx ho
   rw[r4]
   exact ⟨h.base,by show (if w.heap.size=w.heap.size then 0 else _)=0;rw[if_pos rfl],by rw[CY,JL y RV.symm]⟩
 refine ⟨g',⟨⟨by have:=h.base;simp;omega,?_,?_,Mv,?_,?_,?_,?_,h.xJ.below (iX.mono h.base),?_⟩,⟨hs,iX.mono h.base,λk hk=>tS k (Nat.lt_of_lt_of_le hk h.base),λk hk _=>⟨iX.block k hk,tS k hk⟩,λk hk hw=>by
  rcases hw with ⟨o,h1,h2⟩|h1
  ·by_cases ho:o<st.aR.length
   ·exact .inl ⟨o,pP o ho h1,by rw[←tA o ho];exact h2⟩
   ·obtain ⟨y,hy,_⟩:=h1
    obtain ⟨rfl,_⟩:=nX o _ hy ho
    rw[r4] at h2
    omega
  ·exact .inr h1⟩,r4⟩⟩
 ·intro o ty cs hx
  by_cases ho:o<st.aR.length
  ·obtain ⟨h1,h2,vs,h3,h4,h5⟩:=h.row o ty cs (hold o _ ho hx)
   have cd:=(Array.getElem?_eq_some_iff.1 h3).1
   rw[tA o ho,tS _ cd,iX.block _ cd]
   exact ⟨h1,h2,vs,h3,h4,λi c u hc hu=>⟨(h5 i c u hc hu).1.mono hs,(h5 i c u hc hu).2⟩⟩
  ·obtain ⟨rfl,RV⟩:=nX o _ hx ho
   obtain ⟨vs,h1,h2,h3⟩:=vL ty cs RV.symm
   rw[r4]
   refine ⟨h.base,by show (if w.heap.size=w.heap.size then 0 else _)=0;rw[if_pos rfl],vs,by rw[CY,h1],h2,λi c u hc hu=>⟨(h3 i c u hc hu).1.mono hs,(h3 i c u hc hu).2⟩⟩
 ·intro o es hx
  by_cases ho:o<st.aR.length
  ·obtain ⟨h1,ms,c,h3,h4,h5,h6⟩:=h.map o es (hold o _ ho hx)
   have cd:=(Array.getElem?_eq_some_iff.1 h3).1
   rw[tA o ho,iX.block _ cd]
   exact ⟨h1,ms,c,h3,h4,λi k y m a b=>⟨(h5 i k y m a b).1,(h5 i k y m a b).2.mono hs⟩,h6⟩
  ·obtain ⟨rfl,RV⟩:=nX o _ hx ho
   obtain ⟨rfl,h2⟩:=Pv es RV.symm
   rw[r4]
   exact ⟨h.base,#[],0,by rw[CY,h2],rfl,λi k y m a _=>by simp at a,λi m a=>by simp at a,λi j m m' a=>by simp at a⟩
 ·intro o1 o2 dq h1 h2
  by_cases zN:o1<st.aR.length<;>by_cases MH:o2<st.aR.length
  ·rw[tA o1 zN,tA o2 MH];exact h.ne o1 o2 dq (pP o1 zN h1) (pP o2 MH h2)
  ·obtain ⟨y,hy,_⟩:=h2
   obtain ⟨rfl,_⟩:=nX o2 _ hy MH
   rw[tA o1 zN,r4]
   have:=(h.qI (pP o1 zN h1)).1
   omega
  ·obtain ⟨y,hy,_⟩:=h1
   obtain ⟨rfl,_⟩:=nX o1 _ hy zN
   rw[tA o2 MH,r4]
   have:=(h.qI (pP o2 MH h2)).1
   omega
  ·obtain ⟨y,hy,_⟩:=h1
   obtain ⟨y',CO,_⟩:=h2
   exact absurd ((nX o1 _ hy zN).1.trans (nX o2 _ CO MH).1.symm) dq
 ·intro t e sz n ht
  obtain ⟨xs,h1,h2⟩:=h.tail t e sz n ht
  exact ⟨xs,h1.alloc b,λk hk=>by rw[tS k (h1.lt k hk).2];exact h2 k hk⟩
 ·exact h.km
 ·intro t x' o ht hl
  by_cases ho:o<st.aR.length
  ·rw[tA o ho];exact h.eD t x' o ht (pP o ho hl)
  ·obtain ⟨y,hy,_⟩:=hl
   obtain ⟨rfl,_⟩:=nX o _ hy ho
   rw[r4]
   intro hk
   have:=(h.qF ht hk).2
   omega
 ·intro t e sz n rows ht
  obtain ⟨xs,h1,h2,h3⟩:=h.own t e sz n rows ht
  exact ⟨xs,h1.alloc b,λk hk=>by rw[tS k (h1.lt k hk).2];exact h2 k hk,h3.mono hs.bI⟩
end inv
def il (P:uG) (s:uE) (f:Nat):Option Nat :=
 match P.underlying s with
 | some (.struct fs)=>match fs[f]? with
  | some fl=>match P.info? fl.type with
   | some i=>if i.size=0 then none else some fl.offset
   | none=>none
  | none=>none
 | _=>none
theorem nY {P:uG} {s:uE} {f off:Nat} (h:il P s f=some off) (a:Addr) (w:uC):(Instr.fieldAt s (.pointer (some a)) f).run P w=.ok (.pointer (some (a.add off))) w:=by
 unfold il at h
 split at h
 ·rename_i fs hu
  split at h
  ·rename_i fl hf
   split at h
   ·rename_i i hi
    split at h
    ·cases h
    ·rename_i iW
     simp only[Option.some.injEq] at h
     subst h
     simp[Instr.fieldAt,run_underlying hu,hf,Instr.sureAddr,fieldPlace,sizeOf,typeInfo,hi,iW]
   ·cases h
  ·cases h
 ·cases h
def Ie:List EV->Option (List D)
 | []=>some []
 | .d x::l=>match Ie l with
  | some r=>some (x::r)
  | none=>none
 | _::_=>none
theorem CZ:∀ {l:O EV} {ds:O D},Ie l=some ds->l=ds.map EV.d
 | [],ds,h=>by simp[Ie] at h;subst h;rfl
 | .d x::l,ds,h=>by
  unfold Ie at h
  split at h
  ·rename_i r hr
   simp only[Option.some.injEq] at h
   subst h
   rw[CZ hr]
   rfl
  ·cases h
 | .ref _ _::l,ds,h=>by cases h
 | .wW _ _ _ _::l,ds,h=>by cases h
 | .bX _ _ _::l,ds,h=>by cases h
 | .mp _::l,ds,h=>by cases h
 | .xj _ _::l,ds,h=>by cases h
 | .agg _::l,ds,h=>by cases h
 | .dp _::l,ds,h=>by cases h
 | .gd _ _::l,ds,h=>by cases h
def xO:EV->Bool->Option Bool
 | .d (.ex (.bool b)),true=>some b
 | .d (.ex (.bool b)),false=>some (!b)
 | .gd c (.d (.ex (.bool b))),true=>some (c && b)
 | .gd c (.d (.ex (.bool b))),false=>some (c && !b)
 | _,_=>none
def Px:uB->Option Bool
 | .bool c=>some c
 | _=>none
theorem pQ {g:br} {w:uC} {st:St} {e:EV} {want b:Bool} {v:uB} (h:xO e want=some b) (hv:bm g w st e v):(Px v==some want)=b:=by
 unfold xO at h
 split at h
 ·cases h
  rw[hv.aZ];cases b<;>rfl
 ·rename_i c
  cases h
  rw[hv.aZ];cases c<;>rfl
 ·rename_i c c'
  cases h
  cases hv with
  | gd _ _ _ h0 h1 =>
   cases c with
   | false=>rw[h0 rfl];rfl
   | true=>rw[(h1 rfl).aZ];cases c'<;>rfl
 ·rename_i c c'
  cases h
  cases hv with
  | gd _ _ _ h0 h1 =>
   cases c with
   | false=>rw[h0 rfl];rfl
   | true=>rw[(h1 rfl).aZ];cases c'<;>rfl
 ·cases h
def tB (b:Bool) (env:Env):Env->Prop
 | []=>True
 | (i,y)::t=>(lookup i env=some y∨lookup i env=some (.gd b y)∨∃ a z,y=.gd a z/\lookup i env=some (.gd (b && a) z))/\tB b env t
theorem tB.get {b:Bool} {env:Env}:∀ {env':Env},tB b env env'->∀ i y,lookup i env'=some y->lookup i env=some y∨lookup i env=some (.gd b y)∨∃ a z,y=.gd a z/\lookup i env=some (.gd (b && a) z)
 | [],_,i,y,h=>by simp[lookup] at h
 | (j,z)::t,⟨hh,ht⟩,i,y,h=>by
  unfold lookup at h
  cases hb:Nat.beq i j with
  | true =>
   rw[hb] at h
   simp only[Option.some.injEq] at h
   have:=Nat.eq_of_beq_eq_true hb
   subst this
   subst h
   exact hh
  | false =>
   rw[hb] at h
   exact ht.get i y h
theorem cJ.gd {g:br} {w:uC} {st:St} {env env':Env} {tmps:uD uB} {b:Bool} (h:cJ g w st env tmps) (hg:tB b env env') (hb:b=true):cJ g w st env' tmps:=by
 intro i y hy
 rcases hg.get i y hy with h1|h1|⟨a,z,rfl,h1⟩
 ·exact h i y h1
 ·obtain ⟨v,h2,h3⟩:=h i _ h1
  cases h3 with
  | gd _ _ _ _ h4=>exact ⟨v,h2,h4 hb⟩
 ·obtain ⟨v,h2,h3⟩:=h i _ h1
  rw[hb,Bool.true_and] at h3
  exact ⟨v,h2,h3⟩
section guard
variable {P:uG} {f:Ctx} {N:Nat} {S:Start} {Q:EV->St->Prop} {k:List Item} {env:Env} {st:St} {ops rest:List Oper}
theorem cn.guard {d t:Tmp} {op:Op} {ty:uE} {pos:String} {after:uD Edge} {j:Nat} {want b:Bool} {c x:EV} {env':Env} (hj:(ops[j]?).bind (·.dst)=some t) (hl:lookup t env=some c) (hc:xO c want=some b)
  (hE:tB b env env') (hd:dZ N (some d)=true) (h:b=true->az P env' st ⟨some d,op,ty,pos,after,some (j,want)⟩ x) (hk:cn P f N S Q ops rest k ((d,.gd b x)::env) st) :
  cn P f N S Q ops (⟨some d,op,ty,pos,after,some (j,want)⟩::rest) k env st:=by
 intro i hi g w tmps hinv hh he hn
 have ho:ops.toArray[i]?=some ⟨some d,op,ty,pos,after,some (j,want)⟩:=by simpa using (hi 0).symm
 obtain ⟨v,hv,hr⟩:=he t c hl
 have hw:Region.wanted ⟨some d,op,ty,pos,after,some (j,want)⟩ (yielded ops.toArray tmps)=b:=by
  rw[←pQ hc hr]
  have Fx:((ops.toArray)[j]?).bind (·.dst)=some t:=by simpa using hj
  simp only[Region.wanted,yielded,Fx,Option.bind_some,hv]
  cases v<;>rfl
 rw[List.length_cons,gi]
 subst hn
 have hi':∀ j:Nat,rest[j]?=ops[i+1+j]?:=λj=>by have:=hi (j+1);simpa [Nat.add_assoc,Nat.add_comm 1 j] using this
 cases b with
 | false=>exact dv.rY ho hw (hk (i+1) hi' g w _ hinv hh (nU (d:=some d) he hd (.gd _ _ _ (λ_=>rfl) (λh=>by cases h))) fp)
 | true =>
  obtain ⟨u,h1,h2⟩:=h rfl g S.base w tmps hinv (he.gd hE rfl)
  exact dv.value ho hw (h2 w (.refl _ _)) (hk (i+1) hi' g w _ hinv hh (nU (d:=some d) he hd (.gd _ _ _ (λh=>by cases h) (λ_=>h1))) fp)
theorem cn.q {d:J Tmp} {op:Op} {ty:uE} {pos:String} {after:uD Edge} {x:EV} (h:az P env st ⟨d,op,ty,pos,after,none⟩ x) (hd:dZ N d=true) (hk:cn P f N S Q ops rest k (env.put d x) st) :
  cn P f N S Q ops (⟨d,op,ty,pos,after,none⟩::rest) k env st:=.op rfl hd h.v hk
end guard
section q
variable {P:uG} {env:Env} {st:St} {d:Option Tmp} {ty:uE} {pos:String} {after:uD Edge} {gd:Option (Nat×Bool)} {t t2:uE} {x y:uH}
theorem MI {bl:Nat->Nat} {w:uC} {cs:O D} {b off n:Nat} (h:cT bl w (.ro cs) (.pointer (some ⟨b,off,none⟩))):cT bl w (.ro (cs.drop n)) (.pointer (some (Addr.add ⟨b,off,none⟩ n))):=by
 rw[Addr.add_lit]
 cases h with
 | ro _ _ _ hx hc =>
  refine .ro _ b (off+n) ?_ ?_
  ·intro k hk
   simp only[List.length_drop] at hk
   have:=hx (n+k) (by omega)
   rw[Nat.add_assoc];exact this
  ·intro j c u kn hu
   rw[List.getElem?_drop] at kn
   rw[Nat.add_assoc] at hu
   exact hc (n+j) c u kn hu
theorem GO {bl:Nat->Nat} {w:uC} {cs:O D} {v:uB} (h:cT bl w (.ro cs) v):∃ b off,v=.pointer (some ⟨b,off,none⟩):=by
 cases h with|ro _ b off=>exact ⟨b,off,rfl⟩
theorem Ig {s:uE} {f off:Nat} {cs:O D} (hf:il P s f=some off) (hx:bI env x=some (.d (.ro cs))):az P env st ⟨d,.fieldAddr s x f,ty,pos,after,gd⟩ (.d (.ro (cs.drop off))):=λg base w tmps hi he=>by
 cases aA he hx with
 | d _ _ h =>
  obtain ⟨b,o,hv⟩:=GO h
  rw[hv] at h
  exact ⟨_,.d _ _ (MI h),λw' _=>by simp[execOp,hv,nY hf]⟩
theorem lF {s:uE} {f off o Py:Nat} (hf:il P s f=some off) (hx:bI env x=some (.ref o Py)):az P env st ⟨d,.fieldAddr s x f,ty,pos,after,gd⟩ (.ref o (Py+off)):=λg base w tmps hi he=>by
 have h:=aA he hx
 generalize hv:Act.eval ⟨tmps,[]⟩ x=v at h
 cases h with
 | ref _ _ cd=>exact ⟨.pointer (some ⟨g.ob o,Py+off,none⟩),.ref _ _ cd,λw' _=>by simp[execOp,hv,nY hf,Addr.add_lit]⟩
theorem gR {w:uC} {b off n:Nat} {vs:O uB} (hl:vs.length=n) (h:∀ j u,vs[j]?=some u->w.cell? ⟨b,off+j,none⟩=some u):(loadCells ⟨b,off,none⟩ n).run P w=.ok vs.toArray w:=by
 subst hl
 exact run_loadCells_list w _ vs λj u hu=>by rw[Addr.add_lit];exact h j u hu
theorem MJ {bl:Nat->Nat} {w:uC} {cs:O D} {b off:Nat} (h:cT bl w (.ro cs) (.pointer (some ⟨b,off,none⟩))) (n:Nat) (hn:n<=cs.length) :
  ∃ vs:O uB,vs.length=n/\(∀ (j:Nat) u,vs[j]?=some u->w.cell? ⟨b,off+j,none⟩=some u/\u.oneCell'=true/\∀ c,cs[j]?=some c->cT bl w c u):=by
 cases h with
 | ro _ _ _ hx hc =>
  refine ⟨(List.range n).map λj=>(w.cell? ⟨b,off+j,none⟩).getD undef,by simp,λj u hu=>?_⟩
  rw[List.getElem?_map] at hu
  by_cases hj:j<n
  ·obtain ⟨hl,u',pL,h1⟩:=hx j (by omega)
   simp[List.getElem?_range hj,pL] at hu
   subst hu
   exact ⟨pL,h1,λc wX=>hc j c _ wX pL⟩
  ·simp[List.getElem?_eq_none (show (List.range n).length<=j by simp;omega)] at hu
theorem GP {cs:O D} {n:Nat} (h1:(P.underlying t).map jm=some false) (hs:(P.info? t).map (·.size)=some n) (hn:n<=cs.length) (hx:bI env x=some (.d (.ro cs))) :
  az P env st ⟨d,.load t x,ty,pos,after,gd⟩ (.d (.agg (cs.take n))):=λg base w tmps hinv he=>by
 cases aA he hx with
 | d _ _ h =>
  obtain ⟨b,off,hv⟩:=GO h
  rw[hv] at h
  obtain ⟨vs,hl,zV⟩:=MJ h n hn
  refine ⟨.agg vs.toArray,.d _ _ (.agg _ _ (by simp[hl];omega) (λi u hu=>(zV i u (by simpa using hu)).2.1) λi c u hc hu=>?_),λw' hb=>?_⟩
  ·rw[List.getElem?_take] at hc
   split at hc
   ·exact (zV i u (by simpa using hu)).2.2 c hc
   ·cases hc
  ·obtain ⟨inf,vO,iW⟩:∃ inf,P.info? t=some inf/\inf.size=n:=by
    cases hh:P.info? t with
    | none=>rw[hh] at hs;cases hs
    | some inf=>rw[hh] at hs;exact ⟨inf,rfl,by simpa using hs⟩
   have xP:=gR (P:=P) (w:=w') (b:=b) (off:=off) hl (λj u hu=>by
    have h3:=(zV j u hu).1
    exact (hb.cell (World.block_lt_of_cell? w _ h3)).trans h3)
   simp[execOp,hv,Instr.loadAt,Instr.sureAddr,loadVar,sX h1,sizeOf,typeInfo,vO,iW,xP]
theorem fK {o off:Nat} {T:uE} {cs:O EV} {c:EV} (h1:(P.underlying t).map jm=some true) (hx:bI env x=some (.ref o off)) (ho:st.aR[o]?=some (.row T cs)) (hc:cs[off]?=some c) :
  az P env st ⟨d,.load t x,ty,pos,after,gd⟩ c:=λg base w tmps hinv he=>by
 have h:=aA he hx
 generalize hv:Act.eval ⟨tmps,[]⟩ x=v at h
 cases h with
 | ref _ _ cd =>
  obtain ⟨_,_,vs,hb,iW,rC⟩:=hinv.row o T cs ho
  have RW:off<vs.size:=by rw[iW];exact (List.getElem?_eq_some_iff.1 hc).1
  have hu:vs[off]?=some vs[off]:=Array.getElem?_eq_getElem RW
  have cX:w.cell? ⟨g.ob o,off,none⟩=some vs[off]:=by rw[cell_of_row w _ off vs T (0,0) hb];exact hu
  refine ⟨vs[off],(rC off c _ hc hu).1,λw' gQ=>?_⟩
  have Pz:w'.cell? ⟨g.ob o,off,none⟩=some vs[off]:=(gQ.cell (World.block_lt_of_cell? w _ cX)).trans cX
  simp[execOp,hv,Instr.loadAt,Instr.sureAddr,loadVar,rZ h1,Pz]
theorem C0 {g:br} {w:uC} {b n off:Nat} {T:uE} {cs:O EV} {vs:uD uB} (hb:w.heap[b]?=some (.cells vs T (0,0))) (iW:vs.size=cs.length) (hn:off+n<=cs.length) :
  ((vs.toList.drop off).take n).length=n/\∀ (j:Nat) u,((vs.toList.drop off).take n)[j]?=some u->w.cell? ⟨b,off+j,none⟩=some u/\vs[off+j]?=some u:=by
 refine ⟨by simp;omega,λj u hu=>?_⟩
 rw[List.getElem?_take] at hu
 split at hu
 ·rw[List.getElem?_drop] at hu
  have:vs[off+j]?=some u:=by simpa using hu
  exact ⟨by rw[cell_of_row w _ _ vs T (0,0) hb];exact this,this⟩
 ·cases hu
theorem pR {o off n:Nat} {T:uE} {cs:O EV} {ds:O D} (h1:(P.underlying t).map jm=some false) (hs:(P.info? t).map (·.size)=some n) (hx:bI env x=some (.ref o off)) (ho:st.aR[o]?=some (.row T cs))
  (hn:off+n<=cs.length) (hc:Ie ((cs.drop off).take n)=some ds):az P env st ⟨d,.load t x,ty,pos,after,gd⟩ (.d (.agg ds)):=λg base w tmps hinv he=>by
 have h:=aA he hx
 generalize hv:Act.eval ⟨tmps,[]⟩ x=v at h
 cases h with
 | ref _ _ cd =>
  obtain ⟨_,_,vs,hb,iW,rC⟩:=hinv.row o T cs ho
  obtain ⟨hl,zV⟩:=C0 (g:=g) (w:=w) (n:=n) (off:=off) hb iW hn
  have Rn:=CZ hc
  refine ⟨.agg ((vs.toList.drop off).take n).toArray,.d _ _ (.agg _ _ ?_ ?_ ?_),λw' gQ=>?_⟩
  ·have:=congrArg List.length Rn
   simp at this hl ⊢
   omega
  ·intro i u hu
   have pL:=zV i u (by simpa using hu)
   have jv:off+i<cs.length:=by rw[←iW];exact (Array.getElem?_eq_some_iff.1 pL.2).1
   exact (rC (off+i) cs[off+i] u (List.getElem?_eq_getElem jv) pL.2).2
  ·intro i c u kn hu
   have pL:=zV i u (by simpa using hu)
   have nZ:((cs.drop off).take n)[i]?=some (.d c):=by rw[Rn,List.getElem?_map,kn];rfl
   rw[List.getElem?_take] at nZ
   split at nZ
   ·rw[List.getElem?_drop] at nZ
    cases (rC (off+i) _ u nZ pL.2).1 with|d _ _ h=>exact h
   ·cases nZ
  ·obtain ⟨inf,vO,Bw⟩:∃ inf,P.info? t=some inf/\inf.size=n:=by
    cases hh:P.info? t with
    | none=>rw[hh] at hs;cases hs
    | some inf=>rw[hh] at hs;exact ⟨inf,rfl,by simpa using hs⟩
   have xP:=gR (P:=P) (w:=w') (b:=g.ob o) (off:=off) hl (λj u hu=>by
    have h3:=(zV j u hu).1
    exact (gQ.cell (World.block_lt_of_cell? w _ h3)).trans h3)
   simp[execOp,hv,Instr.loadAt,Instr.sureAddr,loadVar,sX h1,sizeOf,typeInfo,vO,Bw,xP]
theorem iY {cs:O D} {i:Nat} {c:D} (hx:bI env x=some (.d (.dp cs))) (hc:cs[i]?=some c):az P env st ⟨d,.extract x i,ty,pos,after,gd⟩ (.d c):=λg base w tmps hinv he=>by
 cases aA he hx with
 | d _ _ h =>
  generalize hv:Act.eval ⟨tmps,[]⟩ x=v at h
  cases h with
  | dp _ vs hs h =>
   have hi:i<vs.size:=by rw[hs];exact (List.getElem?_eq_some_iff.1 hc).1
   have hu:vs[i]?=some vs[i]:=Array.getElem?_eq_getElem hi
   exact ⟨vs[i],.d _ _ (h i c _ hc hu),λw' _=>by simp[execOp,hv,Instr.extract,hu]⟩
theorem Fy {cs:O EV} {i:Nat} {c:EV} (hx:bI env x=some (.dp cs)) (hc:cs[i]?=some c):az P env st ⟨d,.extract x i,ty,pos,after,gd⟩ c:=λg base w tmps hinv he=>by
 have h:=aA he hx
 generalize hv:Act.eval ⟨tmps,[]⟩ x=v at h
 cases h with
 | dp _ vs hs h =>
  have hi:i<vs.size:=by rw[hs];exact (List.getElem?_eq_some_iff.1 hc).1
  have hu:vs[i]?=some vs[i]:=Array.getElem?_eq_getElem hi
  exact ⟨vs[i],h i c _ hc hu,λw' _=>by simp[execOp,hv,Instr.extract,hu]⟩
theorem GQ {s:uE} {f off:Nat} {fs:uD Field} {fl:Field} {cs:O D} {c:D} (hu:P.underlying s=some (.struct fs)) (hf:fs[f]?=some fl) (h1:(P.underlying fl.type).map jm=some true) (ho:fl.offset=off)
  (hx:bI env x=some (.d (.agg cs))) (hc:cs[off]?=some c):az P env st ⟨d,.field s x f,ty,pos,after,gd⟩ (.d c):=λg base w tmps hinv he=>by
 cases aA he hx with
 | d _ _ h =>
  generalize hv:Act.eval ⟨tmps,[]⟩ x=v at h
  cases h with
  | agg _ vs hs Bx h =>
   have hi:off<vs.size:=by rw[hs];exact (List.getElem?_eq_some_iff.1 hc).1
   have pL:vs[off]?=some vs[off]:=Array.getElem?_eq_getElem hi
   exact ⟨vs[off],.d _ _ (h off c _ hc pL),λw' _=>by simp[execOp,hv,Instr.field,run_underlying hu,hf,asAgg,part,rZ h1,ho,pL]⟩
end q
def dj:EV->Option (List EV)
 | .d (.ex v)=>if v.oneCell' then some [.d (.ex v)] else none
 | .d (.agg cs)=>some (cs.map EV.d)
 | .d (.sl sz rows)=>some [.d (.sl sz rows)]
 | .d (.ro cs)=>some [.d (.ro cs)]
 | .d (.e0 sz)=>some [.d (.e0 sz)]
 | .ref o off=>some [.ref o off]
 | .wW o off n c=>some [.wW o off n c]
 | .bX sz rows t=>some [.bX sz rows t]
 | .mp o=>some [.mp o]
 | .xj f cs=>some [.xj f cs]
 | .vc t k=>some [.vc t k]
 | .vp t k i off=>some [.vp t k i off]
 | .vw t k lo n=>some [.vw t k lo n]
 | .agg cs=>some cs
 | _=>none
theorem Ih {v:uB} (h:v.oneCell'=true):v.cells=#[v]:=by cases v<;>first|rfl|cases h
theorem lG {g:br} {w:uC} {st:St} {e:EV} {cs:List EV} {v:uB} (h:dj e=some cs) (hv:bm g w st e v) :
  v.cells.size=cs.length/\∀ (i:Nat) c u,cs[i]?=some c->v.cells[i]?=some u->bm g w st c u/\u.oneCell'=true:=by
 have one:∀ (Ux:v.oneCell'=true) (GR:cs=[e]),v.cells.size=cs.length/\∀ (i:Nat) c u,cs[i]?=some c->v.cells[i]?=some u->bm g w st c u/\u.oneCell'=true:=by
  intro Ux GR
  subst GR
  rw[Ih Ux]
  refine ⟨rfl,λi c u hc hu=>?_⟩
  match i with
  | 0=>simp at hc hu;subst hc;subst hu;exact ⟨hv,Ux⟩
  | n+1=>simp at hc
 cases hv with
 | d x _ hd =>
  cases hd with
  | ex =>
   simp only[dj] at h
   split at h
   ·rename_i h1
    simp only[Option.some.injEq] at h
    exact one h1 h.symm
   ·cases h
  | agg ds vs hs h1 hr =>
   simp only[dj,Option.some.injEq] at h
   subst h
   refine ⟨by simpa [Value.cells] using hs,λi c u hc hu=>?_⟩
   rw[List.getElem?_map] at hc
   cases hx:ds[i]? with
   | none=>rw[hx] at hc;cases hc
   | some y =>
    rw[hx] at hc
    simp only[Option.map_some,Option.some.injEq] at hc
    subst hc
    exact ⟨.d _ _ (hr i y u hx (by simpa [Value.cells] using hu)),h1 i u (by simpa [Value.cells] using hu)⟩
  | dp=>cases h
  | nil=>simp only[dj,Option.some.injEq] at h;exact one rfl h.symm
  | sl=>simp only[dj,Option.some.injEq] at h;exact one rfl h.symm
  | ro=>simp only[dj,Option.some.injEq] at h;exact one rfl h.symm
  | e0=>simp only[dj,Option.some.injEq] at h;exact one rfl h.symm
  | any=>cases h
 | ref=>simp only[dj,Option.some.injEq] at h;exact one rfl h.symm
 | wW=>simp only[dj,Option.some.injEq] at h;exact one rfl h.symm
 | bX _ _ _ _ _ _ hd =>
  simp only[dj,Option.some.injEq] at h
  obtain ⟨A,c,hv⟩:=Bv hd
  exact one (by rw[hv];rfl) h.symm
 | mp=>simp only[dj,Option.some.injEq] at h;exact one rfl h.symm
 | xj=>simp only[dj,Option.some.injEq] at h;exact one rfl h.symm
 | agg ds vs hs h1 hr =>
  simp only[dj,Option.some.injEq] at h
  subst h
  exact ⟨by simpa [Value.cells] using hs,λi c u hc hu=>⟨hr i c u hc (by simpa [Value.cells] using hu),h1 i u (by simpa [Value.cells] using hu)⟩⟩
 | dp=>cases h
 | gd=>cases h
 | vc _ _ _ _ hf=>simp only[dj,Option.some.injEq] at h;obtain ⟨A,n,c,rfl⟩:=hf;exact one rfl h.symm
 | vp _ _ _ _ _ _ hf=>simp only[dj,Option.some.injEq] at h;obtain ⟨b,o,rfl⟩:=hf;exact one rfl h.symm
 | vw _ _ _ _ _ _ hf=>simp only[dj,Option.some.injEq] at h;obtain ⟨A,c,rfl⟩:=hf;exact one rfl h.symm
section v
variable {P:uG} {base:Nat} {env:Env} {st:St} {d:Option Tmp} {ty:uE} {pos:String} {after:uD Edge} {gd:Option (Nat×Bool)} {t t2:uE} {x y:uH}
theorem RX {e:EV} {cs:O EV} (hx:bI env x=some e) (hc:dj e=some cs):tQ P base env st ⟨d,.box t x,ty,pos,after,gd⟩ (.ref st.aR.length 0) (st.add (.row t cs)):=by
 intro g w tmps hinv he
 obtain ⟨h1,h2⟩:=lG hc (aA he hx)
 obtain ⟨g',hi,hs,zO⟩:=hinv.newObj (.row t cs) (.cells (Act.eval ⟨tmps,[]⟩ x).cells t) (λJy zP e=>by cases e;exact ⟨_,rfl,h1,h2⟩) (λes e=>by cases e)
 refine ⟨.pointer (some ⟨w.heap.size,0,none⟩),g',_,?_,?_,hi,hs⟩
 ·simp[execOp,Instr.box,newVar,newRow]
 ·rw[←zO];exact .ref _ _ (by simp[St.add])
theorem o8 {z:uB} {cs:O EV} (hz:(P.info? t).bind (·.zero)=some z) (hc:dj (.d (cv z))=some cs):tQ P base env st ⟨d,.alloc t,ty,pos,after,gd⟩ (.ref st.aR.length 0) (st.add (.row t cs)):=by
 intro g w tmps hinv he
 obtain ⟨h1,h2⟩:=lG (g:=g) (w:=w) (st:=st) hc (.d _ _ (qG _ _ z))
 obtain ⟨g',hi,hs,zO⟩:=hinv.newObj (.row t cs) (.cells z.cells t) (λJy zP e=>by cases e;exact ⟨_,rfl,h1,h2⟩) (λes e=>by cases e)
 obtain ⟨inf,vO,wY⟩:∃ inf,P.info? t=some inf/\inf.zero=some z:=by
  cases hh:P.info? t with
  | none=>rw[hh] at hz;cases hz
  | some inf=>rw[hh] at hz;exact ⟨inf,rfl,hz⟩
 refine ⟨.pointer (some ⟨w.heap.size,0,none⟩),g',_,?_,?_,hi,hs⟩
 ·simp[execOp,Instr.alloc,zeroValue,typeInfo,vO,wY,newVar,newRow]
 ·rw[←zO];exact .ref _ _ (by simp[St.add])
def putCells (cs:List EV) (off:Nat) (new:List EV):List EV:=cs.take off++new++cs.drop (off+new.length)
theorem qJ {o off:Nat} {T:uE} {cs new:O EV} {e:EV} (hx:bI env x=some (.ref o off)) (hy:bI env y=some e) (ho:st.aR[o]?=some (.row T cs)) (hc:dj e=some new) (hn:off+new.length<=cs.length)
  (hs:(P.info? t).map (·.size)=some new.length):CN P base env st ⟨d,.store t x y,ty,pos,after,gd⟩ (st.set o (.row T (putCells cs off new))):=by
 intro g w tmps hinv he
 have h:=aA he hx
 generalize hv:Act.eval ⟨tmps,[]⟩ x=v at h
 obtain ⟨k1,k2⟩:=lG hc (aA he hy)
 generalize hu:Act.eval ⟨tmps,[]⟩ y=u at k1 k2
 cases h with
 | ref _ _ cd =>
  obtain ⟨hb,hl,vs,TY,iW,rC⟩:=hinv.row o T cs ho
  have hlen:u.cells.toList.length=new.length:=by simpa using k1
  have lH:=run_storeCells_at P (g.ob o) off T u.cells.toList 0 vs w TY (by simp only[Nat.add_zero,hlen];omega) (λa ha=>by
   obtain ⟨i,hi⟩:=List.mem_iff_getElem?.1 ha
   have hi':u.cells[i]?=some a:=by simpa using hi
   have jv:i<new.length:=by rw[←k1];exact (Array.getElem?_eq_some_iff.1 hi').1
   exact (k2 i new[i] a (List.getElem?_eq_getElem jv) hi').2)
  simp only[Nat.add_zero] at lH
  obtain ⟨inf,vO,Bw⟩:∃ inf,P.info? t=some inf/\inf.size=new.length:=by
   cases hh:P.info? t with
   | none=>rw[hh] at hs;cases hs
   | some inf=>rw[hh] at hs;exact ⟨inf,rfl,by simpa using hs⟩
  obtain ⟨cF,nn⟩:=hinv.setBlock (o:=o) (x:=.row T (putCells cs off new)) (w':=w.setRow (g.ob o) (vs.toList.take off++u.cells.toList++vs.toList.drop (off+u.cells.toList.length)).toArray)
   ⟨_,ho,by simp⟩ hl (by simp) (λb gQ=>setRow_other w _ b _ gQ) rfl rfl rfl
   (λJP Jy zP g4=>by
    cases g4
    refine ⟨_,setRow_heap w _ vs _ T (0,0) TY,by simp[putCells,iW,k1],λi c a kn ha=>?_⟩
    have OH:bm g w st c a/\a.oneCell'=true:=by
     simp only[putCells] at kn
     have JQ:(vs.toList.take off++u.cells.toList++vs.toList.drop (off+u.cells.toList.length))[i]?=some a:=by simpa using ha
     by_cases h1:i<off
     ·rw[List.append_assoc,List.getElem?_append_left (by simp;omega),List.getElem?_take,if_pos h1] at kn JQ
      exact rC i c a kn (by simpa using JQ)
     ·by_cases h2:i<off+new.length
      ·rw[List.append_assoc,List.getElem?_append_right (by simp;omega),List.getElem?_append_left (by simp[hlen,iW];omega)] at kn JQ
       have e1:(cs.take off).length=off:=by simp;omega
       have e2:(vs.toList.take off).length=off:=by simp;omega
       rw[e1] at kn
       rw[e2] at JQ
       exact k2 (i-off) c a kn (by simpa using JQ)
      ·rw[List.getElem?_append_right (by simp[hlen,iW];omega)] at kn JQ
       have e1:(cs.take off++new).length=off+new.length:=by simp;omega
       have e2:(vs.toList.take off++u.cells.toList).length=off+new.length:=by simp[hlen];omega
       rw[e1,List.getElem?_drop] at kn
       rw[e2,List.getElem?_drop,hlen] at JQ
       exact rC _ c a kn (by simpa using JQ)
    exact ⟨OH.1.mono JP,OH.2⟩) (λ_ es g4=>by cases g4)
  refine ⟨g,_,?_,cF,nn⟩
  simp[execOp,hv,hu,Instr.storeAt,Instr.sureAddr,storeVar,sizeOf,typeInfo,vO,Bw,k1,lH]
end v
def Good (g:br) (w:uC) (st:St) (x:EV) (b9:Nat->Nat) (w':uC) (v:uB):Prop :=
 bm { g with bl:=b9 } w' st x v/\Below w.heap.size w w'/\∀ b,b<w.heap.size->b9 b=g.bl b
def ti (P:uG) (env:Env) (st:St) (o:Oper) (x:EV):Prop :=
 ∀ g base w tmps,Inv g base w st->cJ g w st env tmps ->
  (∃ v b9 w',(execOp (Act.eval ⟨tmps,[]⟩) o).run P w=.ok (.value v) w'/\Good g w st x b9 w' v) ∨
  (∃ f' args,(execOp (Act.eval ⟨tmps,[]⟩) o).run P w=.ok (.enter f' args) w/\Calls P f' args w λe w'=>∃ v b9,e=.returned v/\Good g w st x b9 w' v)
section g
variable {P:uG} {f:Ctx} {N:Nat} {S:Start} {Q:EV->St->Prop} {k:List Item} {env:Env} {st:St} {ops rest:List Oper}
 {d:Option Tmp} {op:Op} {ty:uE} {pos:String} {after:uD Edge} {gd:Option (Nat×Bool)} {t t2 e:uE} {x y:uH}
theorem az.g {o:Oper} {r:EV} (h:az P env st o r):ti P env st o r:=λg base w tmps hi he =>
 let ⟨v,h1,h2⟩:=h g base w tmps hi he
 .inl ⟨v,g.bl,w,h2 w (.refl _ _),h1,.refl _ _,λ_ _=>rfl⟩
theorem ax {f':FuncId} {l:O uH} {ts:uD uE} {es:O EV} {ds:O D} {r:D} (GN:Enters P f') (h1:xN env l=some es) (h2:Ib es=some ds) (hc:aB P f' ds (·=r)) :
  ti P env st ⟨d,.call ⟨.value (.func f'),l.toArray,ts⟩,ty,pos,after,gd⟩ (.d r):=λg base w tmps hi he=>by
 refine .inr ⟨f',_,AA GN w rfl,(hc g.bl w _ (hi.xJ.mono hi.base) (.of he h1 h2)).mono ?_⟩
 rintro e w' ⟨v,r',b9,rfl,rfl,hr,RY,hb,hl⟩
 exact ⟨v,b9,rfl,.d _ _ hr,hb,hl⟩
theorem cn.g {x:EV} (h:ti P env st ⟨d,op,ty,pos,after,none⟩ x) (hd:dZ N d=true) (hk:cn P f N S Q ops rest k (env.put d x) st) :
  cn P f N S Q ops (⟨d,op,ty,pos,after,none⟩::rest) k env st:=by
 intro i hi g w tmps hinv hh he hn
 have ho:ops.toArray[i]?=some ⟨d,op,ty,pos,after,none⟩:=by simpa using (hi 0).symm
 have hi':∀ j:Nat,rest[j]?=ops[i+1+j]?:=λj=>by have:=hi (j+1);simpa [Nat.add_assoc,Nat.add_comm 1 j] using this
 rw[List.length_cons,gi]
 subst hn
 rcases h g S.base w tmps hinv he with ⟨v,b9,w',hr,hx,hb,hl⟩|⟨f',args,hr,hc⟩
 ·obtain ⟨cF,hs⟩:=hinv.grow (g':={ g with bl:=b9 }) hb hl rfl rfl
  exact dv.value ho (by simp[Region.wanted]) hr (hk (i+1) hi' _ w' _ cF (hh.step hs) (nU (he.mono hs.du) hd hx) fp)
 ·refine dv.call ho (by simp[Region.wanted]) hr (hc.mono ?_)
  rintro e w' ⟨v,b9,rfl,hx,hb,hl⟩
  obtain ⟨cF,hs⟩:=hinv.grow (g':={ g with bl:=b9 }) hb hl rfl rfl
  exact ⟨v,rfl,hk (i+1) hi' _ w' _ cF (hh.step hs) (nU (he.mono hs.du) hd hx) fp⟩
theorem cn.eN {d t:Tmp} {j:Nat} {want b:Bool} {c x:EV} {env':Env} (hj:(ops[j]?).bind (·.dst)=some t) (hl:lookup t env=some c) (hc:xO c want=some b)
  (hE:tB b env env') (hd:dZ N (some d)=true) (h:b=true->ti P env' st ⟨some d,op,ty,pos,after,some (j,want)⟩ x) (hk:cn P f N S Q ops rest k ((d,.gd b x)::env) st) :
  cn P f N S Q ops (⟨some d,op,ty,pos,after,some (j,want)⟩::rest) k env st:=by
 intro i hi g w tmps hinv hh he hn
 have ho:ops.toArray[i]?=some ⟨some d,op,ty,pos,after,some (j,want)⟩:=by simpa using (hi 0).symm
 obtain ⟨v,hv,hr⟩:=he t c hl
 have hw:Region.wanted ⟨some d,op,ty,pos,after,some (j,want)⟩ (yielded ops.toArray tmps)=b:=by
  rw[←pQ hc hr]
  have Fx:((ops.toArray)[j]?).bind (·.dst)=some t:=by simpa using hj
  simp only[Region.wanted,yielded,Fx,Option.bind_some,hv]
  cases v<;>rfl
 rw[List.length_cons,gi]
 subst hn
 have hi':∀ j:Nat,rest[j]?=ops[i+1+j]?:=λj=>by have:=hi (j+1);simpa [Nat.add_assoc,Nat.add_comm 1 j] using this
 cases b with
 | false=>exact dv.rY ho hw (hk (i+1) hi' g w _ hinv hh (nU (d:=some d) he hd (.gd _ _ _ (λ_=>rfl) (λh=>by cases h))) fp)
 | true =>
  rcases h rfl g S.base w tmps hinv (he.gd hE rfl) with ⟨v,b9,w',hr,hx,hb,hl⟩|⟨f',args,hr,hc⟩
  ·obtain ⟨cF,hs⟩:=hinv.grow (g':={ g with bl:=b9 }) hb hl rfl rfl
   exact dv.value ho hw hr (hk (i+1) hi' _ w' _ cF (hh.step hs) (nU (d:=some d) (he.mono hs.du) hd (.gd _ _ _ (λh=>by cases h) (λ_=>hx))) fp)
  ·refine dv.call ho hw hr (hc.mono ?_)
   rintro e w' ⟨v,b9,rfl,hx,hb,hl⟩
   obtain ⟨cF,hs⟩:=hinv.grow (g':={ g with bl:=b9 }) hb hl rfl rfl
   exact ⟨v,rfl,hk (i+1) hi' _ w' _ cF (hh.step hs) (nU (d:=some d) (he.mono hs.du) hd (.gd _ _ _ (λh=>by cases h) (λ_=>hx))) fp⟩
theorem mF {sz:Nat}:∀ {rows:O (O D)} (h:∀ row∈rows,row.length=sz) {i j:Nat} {row:O D} {c:D},rows[i]?=some row->row[j]?=some c->rows.flatten[i*sz+j]?=some c
 | [],_,i,j,row,c,hr,_=>by simp at hr
 | r::rows,h,0,j,row,c,hr,hc=>by
  simp at hr
  subst hr
  rw[List.flatten_cons,Nat.zero_mul,Nat.zero_add,List.getElem?_append_left (List.getElem?_eq_some_iff.1 hc).1]
  exact hc
 | r::rows,h,i+1,j,row,c,hr,hc=>by
  have hl:=h r (by simp)
  rw[List.flatten_cons,Nat.add_mul,List.getElem?_append_right (by omega)]
  have:=mF (rows:=rows) (λr hr=>h r (by simp[hr])) (by simpa using hr) hc
  rw[←this]
  congr 1
  omega
theorem jw {sz:Nat}:∀ {rows:O (O D)},(∀ row∈rows,row.length=sz)->rows.flatten.length=rows.length*sz
 | [],_=>by simp
 | r::rows,h=>by
  have h1:=h r (by simp)
  have h2:=jw (rows:=rows) (λr hr=>h r (by simp[hr]))
  rw[List.flatten_cons,List.length_append,h1,h2,List.length_cons,Nat.add_mul];omega
theorem GS {g:br} {w w0:uC} {sz cap:Nat} {rows:O (O D)} {vs:uD uB} {e:uE} (hw:w0.heap=w.heap) (JO:w0.os=w.os) (Uv:w0.tape=w.tape) (Pu:w0.output=w.output)
  (hr:∀ row∈rows,row.length=sz) (hc:rows.length<=cap) (hn:rows.length*sz<=vs.size)
  (cX:∀ (i:Nat) c (u:uB),rows.flatten[i]?=some c->vs[i]?=some u->cT g.bl w c u/\u.oneCell'=true) :
  ∃ b9,cT b9 (w0.alloc (.cells vs e)) (.sl sz rows) (.slice (some ⟨w.heap.size,0,none⟩) rows.length cap)/\Below w.heap.size w (w0.alloc (.cells vs e))/\(∀ b,b<w.heap.size->b9 b=g.bl b):=by
 have hb:Below w.heap.size w (w0.alloc (.cells vs e)):=by
  refine ⟨JO,Uv,Pu,by simp[hw],λk hk=>?_⟩
  rw[Below.heap_alloc _ _ _ (by rw[hw];exact hk),hw]
 let b9:Nat->Nat:=λb=>if b=w.heap.size then rows.length*sz else g.bl b
 have tR:∀ b,b<w.heap.size->b9 b=g.bl b:=λb hb=>by show (if _ then _ else _)=_;rw[if_neg (by omega)]
 have CY:(w0.alloc (.cells vs e)).heap[w.heap.size]?=some (.cells vs e):=by rw[←hw];exact heap_alloc_new w0 _
 have RY:Fl g.bl w b9 (w0.alloc (.cells vs e)):=⟨hb.size,λb gQ=>by rw[tR b gQ];exact Nat.le_refl _,λb off gQ _=>hb.cell (p:=⟨b,off,none⟩) gQ⟩
 have JR:∀ i,(w0.alloc (.cells vs e)).cell? ⟨w.heap.size,i,none⟩=vs[i]?:=λi=>cell_of_row _ _ i vs e (0,0) CY
 have By:=jw hr
 refine ⟨b9,.sl sz rows _ 0 cap hc hr ?_ ?_,hb,tR⟩
 ·intro k hk
  have WV:k<vs.size:=by omega
  have hu:vs[k]?=some vs[k]:=Array.getElem?_eq_getElem WV
  have Ro:k<rows.flatten.length:=by omega
  refine ⟨by show 0+k<(if _ then _ else _);rw[if_pos rfl];omega,vs[k],by rw[Nat.zero_add,JR];exact hu,(cX k _ _ (List.getElem?_eq_getElem Ro) hu).2⟩
 ·intro i j row c u hi hj hu
  rw[Nat.zero_add,JR] at hu
  exact ((cX _ c u (mF hr hi hj) hu).1).mono RY
theorem JS {bl:Nat->Nat} {w:uC} {sz:Nat} {rows:O (O D)} {v:uB} (h:cT bl w (.sl sz rows) v) :
  ∃ (A:J Addr) (c:Nat) (vs:O uB),v=.slice A rows.length c/\vs.length=rows.length*sz/\(rows.length=0∨∃ b off,A=some ⟨b,off,none⟩)/\(A=none->rows.length=0/\c=0) /\
   (∀ b off,A=some ⟨b,off,none⟩->∀ (j:Nat) u,vs[j]?=some u->w.cell? ⟨b,off+j,none⟩=some u)/\(∀ row∈rows,row.length=sz) /\
   ∀ (j:Nat) u c,vs[j]?=some u->rows.flatten[j]?=some c->cT bl w c u/\u.oneCell'=true:=by
 cases h with
 | nil _ A=>exact ⟨A,0,[],rfl,by simp,.inl rfl,λ_=>⟨rfl,rfl⟩,by simp,by simp,by simp⟩
 | sl _ _ b off cap hc hr hx h =>
  have By:=jw hr
  refine ⟨some ⟨b,off,none⟩,cap,(List.range (rows.length*sz)).map λj=>(w.cell? ⟨b,off+j,none⟩).getD undef,rfl,by simp,.inr ⟨b,off,rfl⟩,(λh=>by cases h),?_,hr,?_⟩
  ·intro b' JT he j u hu
   cases he
   rw[List.getElem?_map] at hu
   by_cases hj:j<rows.length*sz
   ·obtain ⟨_,u',pL,h1⟩:=hx j hj
    simp[List.getElem?_range hj,pL] at hu
    subst hu
    exact pL
   ·simp[List.getElem?_eq_none (show (List.range (rows.length*sz)).length<=j by simp;omega)] at hu
  ·intro j u c hu kn
   have hj:j<rows.length*sz:=by have:=(List.getElem?_eq_some_iff.1 kn).1;omega
   rw[List.getElem?_map] at hu
   obtain ⟨_,u',pL,h1⟩:=hx j hj
   simp[List.getElem?_range hj,pL] at hu
   subst hu
   refine ⟨?_,h1⟩
   have iW:0<sz:=by
    rcases Nat.eq_zero_or_pos sz with h0|h0
    ·subst h0;omega
    ·exact h0
   have JU:j=(j / sz)*sz+j % sz:=by rw[Nat.mul_comm];exact (Nat.div_add_mod j sz).symm
   have hi:j / sz<rows.length:=Nat.div_lt_of_lt_mul (by rw[Nat.mul_comm];exact hj)
   have hm:j % sz<rows[j / sz].length:=by rw[hr _ (List.getElem_mem hi)];exact Nat.mod_lt _ iW
   have hg:=mF hr (List.getElem?_eq_getElem hi) (List.getElem?_eq_getElem hm)
   rw[←JU,kn] at hg
   cases hg
   refine h (j / sz) (j % sz) _ _ u' (List.getElem?_eq_getElem hi) (List.getElem?_eq_getElem hm) ?_
   rw[←JU]
   exact pL
theorem PA {bl:Nat->Nat} {w:uC} {sz:Nat} {rows:O (O D)} {A:J Addr} {c l h:Nat} (hd:cT bl w (.sl sz rows) (.slice A rows.length c)) (V7:l<=h) (hh:h<=rows.length) (hc:rows.length<=c) :
  cT bl w (.sl sz ((rows.take h).drop l)) (sliced A l h c sz):=by
 unfold sliced
 have hlen:((rows.take h).drop l).length=h-l:=by simp;omega
 cases hd with
 | nil =>
  have:h=0:=by simpa using hh
  subst this
  have:l=0:=by omega
  subst this
  simpa using cT.nil sz _
 | sl _ _ b off cap kn hr hx cX =>
  have key:∀ JT,(JT=off+l*sz∨h-l=0)->cT bl w (.sl sz ((rows.take h).drop l)) (.slice (some ⟨b,JT,none⟩) (h-l) (c-l)):=by
   intro JT ho
   rw[←hlen]
   refine .sl sz _ b JT (c-l) (by rw[hlen];omega) (λrow hm=>hr row (List.mem_of_mem_take (List.mem_of_mem_drop hm))) ?_ ?_
   ·intro k hk
    rw[hlen] at hk
    rcases ho with rfl|h0
    ·have hb:l*sz+k<rows.length*sz:=by
      have h1:(l+(h-l))*sz<=rows.length*sz:=Nat.mul_le_mul_right sz (by omega)
      rw[Nat.add_mul] at h1
      omega
     have:=hx (l*sz+k) hb
     rw[Nat.add_assoc];exact this
    ·rw[h0,Nat.zero_mul] at hk;omega
   ·intro i j row cc u hi hj hu
    rcases ho with rfl|h0
    ·rw[List.getElem?_drop,List.getElem?_take] at hi
     split at hi
     ·refine cX (l+i) j row cc u hi hj ?_
      rw[←hu]
      congr 2
      rw[Nat.add_mul];omega
     ·cases hi
    ·have:=(List.getElem?_eq_some_iff.1 hi).1
     omega
  split
  ·rename_i AB
   exact key off (.inr (by omega))
  ·simp only[Option.map_some,Addr.add_lit]
   exact key _ (.inl rfl)
end g
def oa:EV->Option (Nat×List (List D))
 | .d (.sl sz rows)=>some (sz,rows)
 | .d (.e0 sz)=>some (sz,[])
 | .bX sz rows _=>some (sz,rows)
 | _=>none
theorem ko {g:br} {w:uC} {st:St} {e:EV} {sz:Nat} {rows:O (O D)} {v:uB} (h:oa e=some (sz,rows)) (hv:bm g w st e v):cT g.bl w (.sl sz rows) v:=by
 unfold oa at h
 split at h
 ·cases h;cases hv with|d _ _ h=>exact h
 ·cases h;cases hv with|d _ _ h=>exact D.GH h
 ·cases h;cases hv with|bX _ _ _ _ _ _ h=>exact h
 ·cases h
section q
variable {P:uG} {base:Nat} {env:Env} {st:St} {d:Option Tmp} {ty:uE} {pos:String} {after:uD Edge} {gd:Option (Nat×Bool)} {t t2 e:uE} {x y z:uH}
theorem qK (ht:P.underlying t=some (.slice e)):P.elem t=e:=by simp[Program.elem,ht]
theorem o9 {inf:TypeInfo} {e:uE} (hi:P.info? e=some inf) (w:uC):(sizeOf e).run P w=.ok inf.size w:=by simp[sizeOf,typeInfo,hi]
section sl
variable {sz:Nat} {rows:List (List D)} {ev:EV} {inf:TypeInfo} (ht:P.underlying t=some (.slice e)) (hi:P.info? e=some inf) (iW:inf.size=sz) (hx:bI env x=some ev) (hs:oa ev=some (sz,rows))
include ht hi iW hx hs
theorem Fz {g:br} {w:uC} {tmps:uD uB} (he:cJ g w st env tmps) {l h:Nat} (V7:l<=h) (hh:h<=rows.length) {lo hi':J uH}
  (hb:∀ (A:J Addr) (c:Nat),rows.length<=c->∀ w':uC,(Instr.slice t (.slice A rows.length c) (lo.map (Act.eval ⟨tmps,[]⟩)) (hi'.map (Act.eval ⟨tmps,[]⟩)) none).run P w'=.ok (sliced A l h c sz) w') :
  ∃ v,bm g w st (.d (.sl sz ((rows.take h).drop l))) v/\∀ w',Below w.heap.size w w'->(execOp (Act.eval ⟨tmps,[]⟩) ⟨d,.slice t x lo hi' none,ty,pos,after,gd⟩).run P w'=.ok (.value v) w':=by
 have hd:=ko hs (aA he hx)
 obtain ⟨A,c,hv⟩:=Bv hd
 rw[hv] at hd
 have hc:rows.length<=c:=by
  cases hd with
  | nil=>exact Nat.le_refl _
  | sl _ _ _ _ _ hc=>exact hc
 refine ⟨_,.d _ _ (PA hd V7 hh hc),λw' _=>?_⟩
 simp only[execOp,hv,Sem.run_bind,run_sliceAt_slice w' t _ _ _ _ (by rw[qK ht];exact ht),Option.map_none,hb A c hc w',Result.andThen_ok,Sem.run_pure]
theorem PB {kl kh:IntKind} {l h:Int} (hy:bI env y=some (.d (.ex (.int kl l)))) (hz:bI env z=some (.d (.ex (.int kh h)))) (h0:0<=l) (h1:l<=h) (h2:h<=rows.length) :
  az P env st ⟨d,.slice t x (some y) (some z) none,ty,pos,after,gd⟩ (.d (.sl sz ((rows.take h.toNat).drop l.toNat))):=λg base w tmps hinv he =>
 Fz ht hi iW hx hs he (by omega) (by omega) λA c hc w'=>by
  simp only[Option.map_some,(aA he hy).aZ,(aA he hz).aZ]
  rw[run_slice_lh w' t A rows.length c (by rw[qK ht];exact ht) kl kh l h h0 h1 (by omega)]
  simp[qK ht,o9 hi,iW]
theorem RZ {kh:IntKind} {h:Int} (hz:bI env z=some (.d (.ex (.int kh h)))) (h0:0<=h) (h2:h<=rows.length) :
  az P env st ⟨d,.slice t x none (some z) none,ty,pos,after,gd⟩ (.d (.sl sz (rows.take h.toNat))):=λg base w tmps hinv he=>by
 have:=Fz (d:=d) (ty:=ty) (pos:=pos) (after:=after) (gd:=gd) ht hi iW hx hs he (l:=0) (h:=h.toNat) (lo:=none) (hi':=some z) (by omega) (by omega) λA c hc w'=>by
  simp only[Option.map_some,Option.map_none,(aA he hz).aZ]
  rw[run_slice_h w' t A rows.length c (by rw[qK ht];exact ht) kh h h0 (by omega)]
  simp[qK ht,o9 hi,iW]
 simpa using this
theorem R0 {kl:IntKind} {l:Int} (hy:bI env y=some (.d (.ex (.int kl l)))) (h0:0<=l) (h1:l<=rows.length) :
  az P env st ⟨d,.slice t x (some y) none none,ty,pos,after,gd⟩ (.d (.sl sz (rows.drop l.toNat))):=λg base w tmps hinv he=>by
 have:=Fz (d:=d) (ty:=ty) (pos:=pos) (after:=after) (gd:=gd) ht hi iW hx hs he (l:=l.toNat) (h:=rows.length) (lo:=some y) (hi':=none) (by omega) (by omega) λA c hc w'=>by
  simp only[Option.map_some,Option.map_none,(aA he hy).aZ]
  rw[run_slice_l w' t A rows.length c (by rw[qK ht];exact ht) kl l h0 (by omega)]
  simp[qK ht,o9 hi,iW]
 simpa using this
end sl
section str
variable {a:List uA} (ht:P.underlying t=some .string) (hx:bI env x=some (.d (.ex (.string ⟨a.toArray⟩))))
include ht hx
theorem MK {kl kh:IntKind} {l h:Int} (hy:bI env y=some (.d (.ex (.int kl l)))) (hz:bI env z=some (.d (.ex (.int kh h)))) (h0:0<=l) (h1:l<=h) (h2:h<=a.length) :
  az P env st ⟨d,.slice t x (some y) (some z) none,ty,pos,after,gd⟩ (.d (.ex (.string ⟨((a.drop l.toNat).take (h.toNat-l.toNat)).toArray⟩))):=j0 λg w tmps w' he=>by
 have e1:(h.toNat:Int)=h:=Int.toNat_of_nonneg (by omega)
 have Jz:=run_sliceBound (P:=P) w' kl l h.toNat .sliceB h0 (by omega)
 have JA:=run_sliceBound (P:=P) w' kh h a.length .sliceAlen (by omega) h2
 simp[execOp,(aA he hx).aZ,(aA he hy).aZ,(aA he hz).aZ,Instr.sliceAt,Instr.slice,run_underlying ht,Instr.sliceBounds,ByteArray.size_mk',Jz,JA,ByteArray.extract_mk]
end str
structure Src (P:uG) (w:uC) (sz:Nat) (u:uB) (m:Nat) (news:List uB):Prop where
 len:Builtin.lenOf u=pure m
 cells:∀ w':uC,w'.heap=w.heap->(Builtin.firstCells sz m u).run P w'=.ok news.toArray w'
 size:news.length=m*sz
 one:∀ v∈news,v.oneCell'=true
theorem pb (w:uC) {base ty sz:Nat} {inf:TypeInfo} {zv:uB} {d2:TypeDesc} (ht:P.underlying t=some (.slice e)) (vP:P.underlying t2=some d2) (zX:d2=.string∨∃ e2,d2=.slice e2) (hi:P.info? e=some inf) (hz:inf.zero=some zv)
  (cM:inf.size=sz) (m9:zv.cells.size=sz) {v:uB} {n:Nat} {xs:O uB} (nv:w.ownsRow base e sz v n xs) {u:uB} {m:Nat} {news:O uB} (hs:Src P w sz u m news)
  (C1:n+m<=maxLen) (JV:(n+m)*inf.bytes<=140737488355328) (wE:base<=w.heap.size) :
  ∃ v' w',(Builtin.append_ #[t,t2] ty #[v,u]).run P w=.ok v' w'/\w'.ownsRow base e sz v' (n+m) (xs++news)/\(m=0->v'=v) /\
   ((v'.ownBlock=v.ownBlock/\w'.heap.size=w.heap.size/\w.grownBy w' v.ownBlock)∨(v'.ownBlock=some w.heap.size/\Below w.heap.size w w')):=by
 rcases zX with rfl|⟨e2,rfl⟩
 all_goals
  subst cM
  have Uy:n+m<=9223372036854775807:=by simp only[maxLen] at C1;omega
  have hlen:(xs++news).length=(n+m)*inf.size:=by rw[List.length_append,nv.1,hs.size,Nat.add_mul]
  have hl:=hs.len
  have grown:∀ (old:Nat),old<n+m ->
    (w.drew.alloc (.cells (xs.toArray++news.toArray++Builtin.zeroCells zv.cells (grownCap w (n+m) old e-(n+m))) e)).ownsRow base e inf.size
     (.slice (some ⟨w.heap.size,0,none⟩) (n+m) (grownCap w (n+m) old e)) (n+m) (xs++news) /\
    Below w.heap.size w (w.drew.alloc (.cells (xs.toArray++news.toArray++Builtin.zeroCells zv.cells (grownCap w (n+m) old e-(n+m))) e)):=by
   intro old ho
   have Uz:=grownCap_ge w (n+m) old e
   have Rp:grownCap w (n+m) old e<=maxLen:=grownCap_le_maxLen w (n+m) old e C1
   refine ⟨⟨hlen,.inr ⟨w.heap.size,_,_,rfl,wE,heap_alloc_new w.drew _,Uz,Rp,?_,?_⟩⟩,((Below.refl _ w).drew).alloc (Nat.le_refl _) _⟩
   ·simp only[Array.size_append,List.size_toArray,size_zeroCells,m9,nv.1,hs.size,←Nat.add_mul]
    congr 1
    omega
   ·simp only[Array.toList_append,List.append_assoc]
    rw[←List.append_assoc,←hlen]
    exact List.take_left
  rcases nv.2 with ⟨rfl,rfl⟩|⟨g,cap,cur,rfl,WW,hg,R1,Rp,GR,GU⟩
  ·have hx:xs=[]:=List.eq_nil_of_length_eq_zero (by simpa using nv.1)
   subst hx
   by_cases hm:m=0
   ·subst hm
    have hn:news=[]:=List.eq_nil_of_length_eq_zero (by simpa using hs.size)
    subst hn
    refine ⟨.slice none 0 0,w,?_,World.ownsRow_nil w base e inf.size,λ_=>rfl,.inl ⟨rfl,rfl,⟨rfl,rfl,rfl,Nat.le_refl _,λ_ _ _=>rfl⟩⟩⟩
    have hf:=hs.cells w rfl
    simp[Builtin.append_,run_underlying ht,run_underlying vP,sizeOf,typeInfo,hi,hl,hf]
   ·have R2:=grown 0 (by omega)
    refine ⟨_,_,?_,R2.1,λh0=>by omega,.inr ⟨rfl,R2.2⟩⟩
    have hf:=hs.cells w.drew rfl
    have ML:¬ m=0:=hm
    have FA:¬ (9223372036854775807<(m:Int)):=by omega
    have FB:¬ (281474976710656<Builtin.nextslicecap m 0*inf.bytes):=by
     have gQ:=JV
     rw[Nat.zero_add] at gQ
     have:=growslice_fits (need:=m) (old:=0) (by omega) gQ
     omega
    simp[Builtin.append_,run_underlying ht,run_underlying vP,sizeOf,typeInfo,zeroValue,hi,hz,hl,ML,FA,FB,Question.forced,run_firstCells_none,hf,newRow,grownCap]
  ·by_cases GV:n+m<=cap
   ·have MM:n*inf.size+news.length<=cur.size:=by rw[hs.size,GR,←Nat.add_mul];exact Nat.mul_le_mul_right _ GV
    have lH:=run_storeCells_at P g (n*inf.size) e news 0 cur w hg (by simpa using MM) hs.one
    simp only[Nat.add_zero] at lH
    have hf:=hs.cells w rfl
    refine ⟨.slice (some ⟨g,0,none⟩) (n+m) cap,w.setRow g (cur.toList.take (n*inf.size)++news++cur.toList.drop (n*inf.size+news.length)).toArray,?_,⟨hlen,.inr ⟨g,cap,_,rfl,WW,setRow_heap w g cur _ e _ hg,GV,Rp,?_,?_⟩⟩,λh0=>by subst h0;rfl,.inl ⟨rfl,by simp,⟨rfl,rfl,rfl,by simp,λk _ hk=>setRow_other w g k _ (λe=>hk (by simp[Value.ownBlock,e]))⟩⟩⟩
    ·simp[Builtin.append_,run_underlying ht,run_underlying vP,sizeOf,typeInfo,hi,hl,GV,hf,Addr.add_lit,lH]
    ·simp only[List.size_toArray,List.length_append,List.length_take,List.length_drop,Array.length_toList]
     omega
    ·rw[GU,←hlen]
     exact List.take_left
   ·have holds:∀ j u,xs[j]?=some u->w.cell? ((⟨g,0,none⟩:Addr).add j)=some u:=nv.cells (g:=g) rfl
    have R2:=grown cap (by omega)
    refine ⟨_,_,?_,R2.1,λh0=>by omega,.inr ⟨rfl,R2.2⟩⟩
    have hf:=hs.cells w.drew rfl
    have hold:=run_firstCells_some (P:=P) w.drew inf.size n ⟨g,0,none⟩ n cap xs nv.1 (by simpa using holds)
    have FA:¬ (9223372036854775807<((n:Int)+(m:Int))):=by omega
    have FB:¬ (281474976710656<Builtin.nextslicecap (n+m) cap*inf.bytes):=by
     have:=growslice_fits (need:=n+m) (old:=cap) (by omega) JV
     omega
    simp[Builtin.append_,run_underlying ht,run_underlying vP,sizeOf,typeInfo,zeroValue,hi,hz,hl,GV,FA,FB,Question.forced,hold,hf,newRow,grownCap]
    rw[show (xs++news).toArray=xs.toArray++news.toArray from by simp,Array.append_assoc]
end q
theorem FC {w:uC} {bl:Nat->Nat} {base e sz n:Nat} {v:uB} {xs:O uB} {rows:O (O D)} (ho:w.ownsRow base e sz v n xs) (hn:rows.length=n) (hr:∀ row∈rows,row.length=sz)
  (hl:∀ b,v.ownBlock=some b->n*sz<=bl b) (hx:∀ (j:Nat) u c,xs[j]?=some u->rows.flatten[j]?=some c->cT bl w c u/\u.oneCell'=true):cT bl w (.sl sz rows) v:=by
 rcases ho.2 with ⟨rfl,rfl⟩|⟨g,cap,cur,rfl,hb,hg,R1,Rp,GR,GU⟩
 ·have:rows=[]:=List.eq_nil_of_length_eq_zero hn
  subst this
  exact .nil sz _
 ·subst hn
  have By:=jw hr
  have Bz:=ho.cells (g:=g) rfl
  refine .sl sz rows g 0 cap R1 hr ?_ ?_
  ·intro k hk
   have R3:k<xs.length:=by rw[ho.1];exact hk
   have h1:=Bz k xs[k] (List.getElem?_eq_getElem R3)
   rw[Addr.add_lit] at h1
   have Ro:k<rows.flatten.length:=by rw[By];exact hk
   exact ⟨by have:=hl g rfl;omega,xs[k],h1,(hx k _ _ (List.getElem?_eq_getElem R3) (List.getElem?_eq_getElem Ro)).2⟩
  ·intro i j row c u hi hj hu
   have cd:=Bu (List.getElem?_eq_some_iff.1 hi).1 (show j<sz by rw[←hr row (List.mem_of_getElem? hi)];exact (List.getElem?_eq_some_iff.1 hj).1)
   have R3:i*sz+j<xs.length:=by rw[ho.1];exact cd
   have h1:=Bz _ xs[i*sz+j] (List.getElem?_eq_getElem R3)
   rw[Addr.add_lit,hu] at h1
   cases h1
   exact (hx _ _ _ (List.getElem?_eq_getElem R3) (mF hr hi hj)).1
structure r5 (P:uG) (bl:Nat->Nat) (w:uC) (sz:Nat) (u:uB) (rs:List (List D)) (news:List uB):Prop where
 src:Src P w sz u rs.length news
 rows:∀ row∈rs,row.length=sz
 rep:∀ (j:Nat) v c,news[j]?=some v->rs.flatten[j]?=some c->cT bl w c v/\v.oneCell'=true
theorem pS {P:uG} {bl:Nat->Nat} {w:uC} {sz:Nat} {u:uB} {rows:O (O D)} (h:cT bl w (.sl sz rows) u):∃ news,r5 P bl w sz u rows news:=by
 obtain ⟨A,c,vs,rfl,hl,hA,xQ,cX,hr,lI⟩:=JS h
 have By:=jw hr
 refine ⟨vs,⟨rfl,λw' hw=>?_,hl,λv hv=>?_⟩,hr,lI⟩
 ·cases A with
  | none =>
   have:vs=[]:=List.eq_nil_of_length_eq_zero (by rw[hl,(xQ rfl).1];simp)
   subst this
   simp[Builtin.firstCells]
  | some ad =>
   rcases hA with h0|⟨b,off,uN⟩
   ·have:vs=[]:=List.eq_nil_of_length_eq_zero (by rw[hl,h0];simp)
    subst this
    simp[Builtin.firstCells,h0,loadCells,loadCellsFrom]
   ·cases uN
    refine run_firstCells_some w' sz rows.length _ _ c vs hl λj v hv=>?_
    rw[Addr.add_lit]
    have:=cX b off rfl j v hv
    simpa [World.cell?,hw] using this
 ·obtain ⟨j,hj⟩:=List.mem_iff_getElem?.1 hv
  have Fx:=(List.getElem?_eq_some_iff.1 hj).1
  exact (lI j v _ hj (List.getElem?_eq_getElem (by omega))).2
def dH (l:List uA):List (List D):=l.map λb=>[D.ex (.int .u8 (b.toNat:Int))]
theorem FD {P:uG} {bl:Nat->Nat} {w:uC} (l:O uA):r5 P bl w 1 (.string ⟨l.toArray⟩) (dH l) (l.map λb=>.int .u8 (b.toNat:Int)):=by
 have By:(dH l).flatten=l.map λb=>D.ex (.int .u8 (b.toNat:Int)):=by
  unfold dH
  induction l with
  | nil=>rfl
  | cons a l ih=>simp[ih]
 refine ⟨⟨?_,λw' hw=>?_,by simp[dH],?_⟩,?_,?_⟩
 ·simp[Builtin.lenOf,dH,ByteArray.size_mk']
 ·have:(dH l).length=l.length:=by simp[dH]
  simp[Builtin.firstCells,this,ByteArray.extract_mk]
 ·intro v hv
  simp only[List.mem_map] at hv
  obtain ⟨b,_,rfl⟩:=hv
  rfl
 ·intro row hr
  simp only[dH,List.mem_map] at hr
  obtain ⟨b,_,rfl⟩:=hr
  rfl
 ·intro j v c hv hc
  rw[By,List.getElem?_map] at hc
  rw[List.getElem?_map] at hv
  cases hl:l[j]? with
  | none=>rw[hl] at hv;cases hv
  | some b =>
   rw[hl] at hv hc
   cases hv;cases hc
   exact ⟨.ex _,rfl⟩
section append
variable {P:uG} {g:br} {base:Nat} {w:uC} {st:St}
def fZ.FE (x:fZ):Nat:=if x.own=none then x.n*x.sz else 0
theorem oc {x:fZ} (h:x.own=none):x.FE=x.n*x.sz:=by simp[fZ.FE,h]
theorem uO {x:fZ} {p:O (O D)} (h:x.own=some p):x.FE=0:=by simp[fZ.FE,h]
theorem Inv.C2 (h:Inv g base w st) {t:Nat} {x:fZ} (hx:st.al[t]?=some x) {b:Nat} (hb:(g.tk t).ownBlock=some b):g.bl b=x.FE:=by
 obtain ⟨e,sz,n,own⟩:=x
 cases own with
 | none=>obtain ⟨xs,_,h2⟩:=h.tail t e sz n hx;exact h2 b hb
 | some rows=>obtain ⟨xs,_,h2,_⟩:=h.own t e sz n rows hx;exact h2 b hb
theorem Inv.JW (h:Inv g base w st) {tk:Nat} {x x':fZ} (dO:st.al[tk]?=some x) {v':uB} {w':uC} {R4:O uB} (im:w'.ownsRow base x'.e x'.sz v' x'.n R4)
  (hc:(v'.ownBlock=(g.tk tk).ownBlock/\w'.heap.size=w.heap.size/\w.grownBy w' (g.tk tk).ownBlock)∨(v'.ownBlock=some w.heap.size/\Below w.heap.size w w'))
  (MN:x.own=none->x'.own=none/\x'.e=x.e/\x'.sz=x.sz/\x.n<=x'.n/\(x'.n=x.n->v'=g.tk tk)/\(∀ b,(g.tk tk).ownBlock=some b->v'.ownBlock=some b->∀ off,off<x.n*x.sz->w'.cell? ⟨b,off,none⟩=w.cell? ⟨b,off,none⟩))
  (UA:∀ rows,x.own=some rows->∀ aY,x'.own=some aY->x'.sz=x.sz/\x.n<=x'.n/\(x.n=x'.n->v'=g.tk tk))
  (lI:∀ aY,x'.own=some aY->e7 g.bl w x'.sz x'.n aY R4) :
  ∃ g',g'.tk tk=v'/\(∀ b,v'.ownBlock=some b->g'.bl b=x'.FE)/\Inv g' base w' (st.a8 tk x')/\Step base g w st g' w' (st.a8 tk x'):=by
 have xR:∀ b,(g.tk tk).ownBlock=some b->g.bl b=x.FE:=λb hb=>h.C2 dO hb
 have cd:∀ b,(g.tk tk).ownBlock=some b->base<=b/\b<w.heap.size:=λb hb=>h.qF dO hb
 have hlen:tk<st.al.length:=(List.getElem?_eq_some_iff.1 dO).1
 have cM:w.heap.size<=w'.heap.size:=by rcases hc with ⟨_,h1,_⟩|⟨_,h1⟩;omega;exact h1.size
 have JO:w'.os=w.os/\w'.tape=w.tape/\w'.output=w.output:=by rcases hc with ⟨_,_,h1⟩|⟨_,h1⟩<;>exact ⟨h1.os,h1.tape,h1.output⟩
 have iq:∀ k,k<w.heap.size->(g.tk tk).ownBlock≠some k->w'.heap[k]?=w.heap[k]?:=by
  intro k hk dq
  rcases hc with ⟨_,_,h1⟩|⟨_,h1⟩
  ·exact h1.block k hk (Ne.symm dq)
  ·exact h1.block k hk
 have nX:∀ k,k<w.heap.size->(g.tk tk).ownBlock≠some k->v'.ownBlock≠some k:=by
  intro k hk dq
  rcases hc with ⟨h1,_,_⟩|⟨h1,_⟩<;>rw[h1]
  ·exact dq
  ·intro he;cases he;omega
 let g':br:=⟨λb=>if v'.ownBlock=some b then x'.FE else g.bl b,g.ob,λt=>if t=tk then v' else g.tk t⟩
 have r6:∀ b,v'.ownBlock=some b->g'.bl b=x'.FE:=λb hb=>by show (if _ then _ else _)=_;rw[if_pos hb]
 have g5:∀ b,v'.ownBlock≠some b->g'.bl b=g.bl b:=λb hb=>by show (if _ then _ else _)=_;rw[if_neg hb]
 have tj:g'.tk tk=v':=by show (if tk=tk then v' else _)=_;rw[if_pos rfl]
 have qL:∀ t,t≠tk->g'.tk t=g.tk t:=λt ht=>by show (if t=tk then v' else _)=_;rw[if_neg ht]
 have uP:∀ k,k<base->(g.tk tk).ownBlock≠some k:=λk hk he=>by have:=(cd k he).1;omega
 have iX:Below base w w':=⟨JO.1,JO.2.1,JO.2.2,cM,λk hk=>iq k (Nat.lt_of_lt_of_le hk h.base) (uP k hk)⟩
 have R5:x.own=none->x.FE<=x'.FE:=by
  intro hx
  obtain ⟨h1,_,h3,h4,_⟩:=MN hx
  rw[oc hx,oc h1,h3]
  exact Nat.mul_le_mul_right _ h4
 have hzero:x.own≠none->x.FE=0:=λhx=>by cases ho:x.own with|none=>exact absurd ho hx|some p=>exact uO ho
 have uQ:Fl g.bl w g'.bl w':=by
  refine ⟨cM,λb hb=>?_,λb off hb ho=>?_⟩
  ·by_cases he:v'.ownBlock=some b
   ·rw[r6 b he]
    have gQ:(g.tk tk).ownBlock=some b:=by
     rcases hc with ⟨h1,_,_⟩|⟨h1,_⟩
     ·rw[←h1];exact he
     ·rw[h1] at he;cases he;omega
    rw[xR b gQ]
    by_cases hx:x.own=none
    ·exact R5 hx
    ·rw[hzero hx];exact Nat.zero_le _
   ·rw[g5 b he];exact Nat.le_refl _
  ·by_cases he:(g.tk tk).ownBlock=some b
   ·rcases hc with ⟨h1,_,_⟩|⟨_,h1⟩
    ·rw[xR b he] at ho
     by_cases hx:x.own=none
     ·rw[oc hx] at ho
      exact (MN hx).2.2.2.2.2 b he (h1.trans he) off ho
     ·rw[hzero hx] at ho;omega
    ·exact h1.cell (p:=⟨b,off,none⟩) hb
   ·exact World.cell?_of_block (w:=w) (a:=⟨b,off,none⟩) (iq b hb he)
 have qM:∀ t y,t≠tk->(st.a8 tk x').al[t]?=some y->st.al[t]?=some y:=λt y ht hy=>by simpa [St.a8,List.getElem?_set,Ne.symm ht] using hy
 have BA:∀ y,(st.a8 tk x').al[tk]?=some y->y=x':=λy hy=>by
  have:x'=y:=by simpa [St.a8,List.getElem?_set,hlen] using hy
  exact this.symm
 have hs:qE g w st g' w' (st.a8 tk x'):=by
  refine ⟨uQ,λ_ _=>rfl,Nat.le_refl _,λt e' CP n' ht=>?_,by simp[St.a8],λt y aY jv hy ho=>?_⟩
  ·by_cases sY:t=tk
   ·subst sY
    rw[dO] at ht
    cases ht
    obtain ⟨h1,h2,h3,h4,h5,_⟩:=MN rfl
    obtain ⟨e1,s1,n1,o1⟩:=x'
    simp only at h1 h2 h3 h4 h5
    subst h1;subst h2;subst h3
    exact ⟨n1,by simp[St.a8,List.getElem?_set,hlen],h4,λhe=>by rw[tj];exact h5 he⟩
   ·exact ⟨n',by simp[St.a8,List.getElem?_set,Ne.symm sY,ht],Nat.le_refl _,λ_=>qL t sY⟩
  ·by_cases sY:t=tk
   ·subst sY
    have:=BA y hy
    subst this
    cases hx:x.own with
    | none=>rw[(MN hx).1] at ho;cases ho
    | some rows =>
     obtain ⟨h1,h2,h3⟩:=UA rows hx aY ho
     exact ⟨x,rows,dO,hx,h1.symm,h2,λe=>by rw[tj];exact h3 e⟩
   ·exact ⟨y,aY,qM t y sY hy,ho,rfl,Nat.le_refl _,λ_=>qL t sY⟩
 have uR:∀ o,st.live o->g.ob o<w.heap.size/\(g.tk tk).ownBlock≠some (g.ob o):=λo ho=>⟨(h.qI ho).1,h.eD tk _ o dO ho⟩
 have Mv:∀ o y,st.aR[o]?=some (.raw y)->base<=g'.ob o/\g'.bl (g'.ob o)=0/\w'.heap[g'.ob o]?=some y:=by
  intro o y hx
  obtain ⟨h1,h2,h3⟩:=h.raw o y hx
  obtain ⟨k1,k2⟩:=uR o ⟨_,hx,by simp⟩
  exact ⟨h1,(g5 _ (nX _ k1 k2)).trans h2,by show w'.heap[g.ob o]?=_;rw[iq _ k1 k2];exact h3⟩
 have eh:∀ t y,t≠tk->(st.a8 tk x').al[t]?=some y->∀ b,(g.tk t).ownBlock=some b->b<w.heap.size/\(g.tk tk).ownBlock≠some b/\v'.ownBlock≠some b:=λt y sY hy b hb=>by
  have h1:=(h.qF (qM t y sY hy) hb).2
  have h2:=h.km t tk _ _ b sY (qM t _ sY hy) dO hb
  exact ⟨h1,h2,nX b h1 h2⟩
 refine ⟨g',tj,r6,⟨Nat.le_trans h.base cM,?_,?_,Mv,h.ne,?_,?_,?_,h.xJ.below iX,?_⟩,⟨hs,iX,λb hb=>g5 b (nX b (Nat.lt_of_lt_of_le hb h.base) (uP b hb)),λb hb hn=>?_,λb hb hw=>?_⟩⟩
 ·intro o ty cs hx
  obtain ⟨h1,h2,vs,h3,h4,h5⟩:=h.row o ty cs hx
  obtain ⟨k1,k2⟩:=uR o ⟨_,hx,by simp⟩
  exact ⟨h1,(g5 _ (nX _ k1 k2)).trans h2,vs,by show w'.heap[g.ob o]?=_;rw[iq _ k1 k2];exact h3,h4,λi c u hc hu=>⟨(h5 i c u hc hu).1.mono hs,(h5 i c u hc hu).2⟩⟩
 ·intro o es hx
  obtain ⟨h1,ms,c,h3,h4,h5,h6⟩:=h.map o es hx
  obtain ⟨k1,k2⟩:=uR o ⟨_,hx,by simp⟩
  exact ⟨h1,ms,c,by show w'.heap[g.ob o]?=_;rw[iq _ k1 k2];exact h3,h4,λi k y m a b=>⟨(h5 i k y m a b).1,(h5 i k y m a b).2.mono hs⟩,h6⟩
 ·intro t e' CP n' ht
  by_cases sY:t=tk
  ·subst sY
   have:=BA _ ht
   subst this
   rw[tj]
   exact ⟨_,im,λb hb=>(r6 b hb).trans (oc rfl)⟩
  ·obtain ⟨ys,k1,k2⟩:=h.tail t e' CP n' (qM t _ sY ht)
   rw[qL t sY]
   exact ⟨ys,dc k1 λb hb=>iq b (eh t _ sY ht b hb).1 (eh t _ sY ht b hb).2.1,λb hb=>by rw[g5 b (eh t _ sY ht b hb).2.2];exact k2 b hb⟩
 ·intro t t' y y' b dq ht nO hb
  by_cases h1:t=tk
  ·subst h1
   rw[tj] at hb
   rw[qL t' (Ne.symm dq)]
   intro gQ
   exact (eh t' _ (Ne.symm dq) nO b gQ).2.2 hb
  ·rw[qL t h1] at hb
   by_cases h2:t'=tk
   ·subst h2
    rw[tj]
    exact (eh t _ h1 ht b hb).2.2
   ·rw[qL t' h2]
    exact h.km t t' _ _ b dq (qM t _ h1 ht) (qM t' _ h2 nO) hb
 ·intro t y o ht ho
  obtain ⟨k1,k2⟩:=uR o ho
  by_cases h1:t=tk
  ·subst h1
   rw[tj]
   exact nX _ k1 k2
  ·rw[qL t h1]
   exact h.eD t y o (qM t _ h1 ht) ho
 ·intro t e' CP n' aY ht
  by_cases sY:t=tk
  ·subst sY
   have:=BA _ ht
   subst this
   rw[tj]
   exact ⟨_,im,λb hb=>(r6 b hb).trans (uO rfl),(lI aY rfl).mono uQ⟩
  ·obtain ⟨ys,k1,k2,k3⟩:=h.own t e' CP n' aY (qM t _ sY ht)
   rw[qL t sY]
   exact ⟨ys,dc k1 λb hb=>iq b (eh t _ sY ht b hb).1 (eh t _ sY ht b hb).2.1,λb hb=>by rw[g5 b (eh t _ sY ht b hb).2.2];exact k2 b hb,k3.mono uQ⟩
 ·have dq:(g.tk tk).ownBlock≠some b:=λe=>hn (.inr ⟨tk,x,dO,e⟩)
  exact ⟨iq b hb dq,g5 b (nX b hb dq)⟩
 ·rcases hw with ⟨o,h1,h2⟩|⟨t,y,h1,h2⟩
  ·exact .inl ⟨o,h1,h2⟩
  ·by_cases sY:t=tk
   ·subst sY
    rw[tj] at h2
    rcases hc with ⟨c1,_,_⟩|⟨c1,_⟩
    ·exact .inr ⟨t,x,dO,by rw[←c1];exact h2⟩
    ·rw[c1] at h2;cases h2;omega
   ·rw[qL t sY] at h2
    exact .inr ⟨t,y,qM t y sY h1,h2⟩
theorem Inv.append (h:Inv g base w st) {tk e sz n m:Nat} (dO:st.al[tk]?=some ⟨e,sz,n,none⟩) {v':uB} {w':uC} {xs news:O uB} (nv:w.ownsRow base e sz (g.tk tk) n xs) (im:w'.ownsRow base e sz v' (n+m) (xs++news))
  (ML:m=0->v'=g.tk tk)
  (hc:(v'.ownBlock=(g.tk tk).ownBlock/\w'.heap.size=w.heap.size/\w.grownBy w' (g.tk tk).ownBlock)∨(v'.ownBlock=some w.heap.size/\Below w.heap.size w w')) :
  ∃ g',g'.tk tk=v'/\(∀ b,v'.ownBlock=some b->g'.bl b=(n+m)*sz)/\Inv g' base w' (st.a8 tk ⟨e,sz,n+m,none⟩)/\Step base g w st g' w' (st.a8 tk ⟨e,sz,n+m,none⟩):=by
 obtain ⟨g',h1,h2,h3,h4⟩:=h.JW (x':=⟨e,sz,n+m,none⟩) dO im hc
  (λ_=>⟨rfl,rfl,rfl,Nat.le_add_right _ _,λhe=>ML (by simp only at he;omega),λb he hv off ho=>by
   have UB:off<xs.length:=by rw[nv.1];exact ho
   have c1:=nv.cells he off xs[off] (List.getElem?_eq_getElem UB)
   have c2:=im.cells hv off xs[off] (by rw[List.getElem?_append_left UB];exact List.getElem?_eq_getElem UB)
   rw[Addr.add_lit,Nat.zero_add] at c1 c2
   rw[c1,c2]⟩)
  (λrows hh=>by cases hh) (λrows hh=>by cases hh)
 exact ⟨g',h1,λb hb=>(h2 b hb).trans (oc rfl),h3,h4⟩
theorem Inv.BC (h:Inv g base w st) (x:fZ) {v:uB} {w':uC} {xs:O uB} (nv:w'.ownsRow base x.e x.sz v x.n xs)
  (hc:(w'=w/\v.ownBlock=none)∨(v.ownBlock=some w.heap.size/\Below w.heap.size w w'))
  (lI:∀ rows,x.own=some rows->e7 g.bl w x.sz x.n rows xs) :
  ∃ g',g'.tk st.al.length=v/\(∀ b,v.ownBlock=some b->g'.bl b=x.FE)/\(∀ b,b<w.heap.size->g'.bl b=g.bl b)/\Inv g' base w' (st.tok x)/\Step base g w st g' w' (st.tok x):=by
 have iX:Below w.heap.size w w':=by
  rcases hc with ⟨rfl,_⟩|⟨_,h1⟩
  ·exact .refl _ _
  ·exact h1
 have Rq:∀ b,v.ownBlock=some b->b=w.heap.size:=by
  intro b hb
  rcases hc with ⟨_,h1⟩|⟨h1,_⟩
  ·rw[h1] at hb;cases hb
  ·rw[h1] at hb;cases hb;rfl
 let g':br:=⟨λb=>if v.ownBlock=some b then x.FE else g.bl b,g.ob,λt=>if t=st.al.length then v else g.tk t⟩
 have r6:∀ b,v.ownBlock=some b->g'.bl b=x.FE:=λb hb=>by show (if _ then _ else _)=_;rw[if_pos hb]
 have g5:∀ b,b<w.heap.size->g'.bl b=g.bl b:=λb hb=>by
  show (if _ then _ else _)=_
  rw[if_neg]
  intro e
  have:=Rq b e
  omega
 have h1:g'.tk st.al.length=v:=by show (if _ then _ else _)=_;rw[if_pos rfl]
 have h2:∀ t,t≠st.al.length->g'.tk t=g.tk t:=λt ht=>by show (if _ then _ else _)=_;rw[if_neg ht]
 have hold:∀ t y,(st.tok x).al[t]?=some y->(t<st.al.length/\st.al[t]?=some y)∨(t=st.al.length/\y=x):=by
  intro t y hx
  have cd:=(List.getElem?_eq_some_iff.1 hx).1
  simp[St.tok] at cd
  by_cases ht:t<st.al.length
  ·exact .inl ⟨ht,by simpa [St.tok,List.getElem?_append_left ht] using hx⟩
  ·have:t=st.al.length:=by omega
   subst this
   exact .inr ⟨rfl,by simpa [St.tok,eq_comm] using hx⟩
 have uQ:Fl g.bl w g'.bl w':=⟨iX.size,λb hb=>by rw[g5 b hb];exact Nat.le_refl _,λb off hb _=>iX.cell (p:=⟨b,off,none⟩) hb⟩
 have hs:qE g w st g' w' (st.tok x):=⟨uQ,λ_ _=>rfl,Nat.le_refl _,λt e' CP n ht=>by
  have cd:=(List.getElem?_eq_some_iff.1 ht).1
  exact ⟨n,by simp[St.tok,List.getElem?_append_left cd,ht],Nat.le_refl _,λ_=>h2 t (by omega)⟩,by simp[St.tok],pN λt y aY cd hy _=>⟨by
   rcases hold t y hy with ⟨_,hh⟩|⟨hh,_⟩
   ·exact hh
   ·omega,h2 t (by omega)⟩⟩
 have dq:∀ t y b,st.al[t]?=some y->(g.tk t).ownBlock=some b->v.ownBlock≠some b:=λt y b hy hb hv=>by
  have:=(h.qF hy hb).2
  have:=Rq b hv
  omega
 refine ⟨g',h1,r6,g5,⟨Nat.le_trans h.base iX.size,λo ty cs hx=>?_,λo es hx=>?_,λo y hx=>?_,h.ne,?_,?_,?_,h.xJ.below (iX.mono h.base),?_⟩,⟨hs,iX.mono h.base,λb hb=>g5 b (Nat.lt_of_lt_of_le hb h.base),λb hb _=>⟨iX.block b hb,g5 b hb⟩,λb hb hw=>?_⟩⟩
 ·obtain ⟨k1,k2,vs,k3,k4,k5⟩:=h.row o ty cs hx
  have cd:=(Array.getElem?_eq_some_iff.1 k3).1
  exact ⟨k1,(g5 _ cd).trans k2,vs,(iX.block _ cd).trans k3,k4,λi c u hc hu=>⟨(k5 i c u hc hu).1.mono hs,(k5 i c u hc hu).2⟩⟩
 ·obtain ⟨k1,ms,c,k3,k4,k5,k6⟩:=h.map o es hx
  have cd:=(Array.getElem?_eq_some_iff.1 k3).1
  exact ⟨k1,ms,c,(iX.block _ cd).trans k3,k4,λi k y m a b=>⟨(k5 i k y m a b).1,(k5 i k y m a b).2.mono hs⟩,k6⟩
 ·obtain ⟨k1,k2,k3⟩:=h.raw o y hx
  have cd:=(Array.getElem?_eq_some_iff.1 k3).1
  exact ⟨k1,(g5 _ cd).trans k2,(iX.block _ cd).trans k3⟩
 ·intro t e' CP n ht
  rcases hold t _ ht with ⟨cd,nO⟩|⟨rfl,he⟩
  ·rw[h2 t (by omega)]
   obtain ⟨ys,k1,k2⟩:=h.tail t e' CP n nO
   exact ⟨ys,dc k1 λb hb=>iX.block b (k1.lt b hb).2,λb hb=>(g5 b (k1.lt b hb).2).trans (k2 b hb)⟩
  ·subst he
   rw[h1]
   exact ⟨xs,nv,λb hb=>(r6 b hb).trans (oc rfl)⟩
 ·intro t t' y y' b mG ht nO hb
  rcases hold t _ ht with ⟨cd,k⟩|⟨rfl,he⟩
  ·rw[h2 t (by omega)] at hb
   rcases hold t' _ nO with ⟨jv,k'⟩|⟨rfl,rX⟩
   ·rw[h2 t' (by omega)];exact h.km t t' y y' b mG k k' hb
   ·rw[h1];exact dq t y b k hb
  ·rw[h1] at hb
   rcases hold t' _ nO with ⟨jv,k'⟩|⟨rfl,rX⟩
   ·rw[h2 t' (by omega)]
    intro gQ
    exact dq t' y' b k' gQ hb
   ·exact absurd rfl mG
 ·intro t y o ht ho
  rcases hold t _ ht with ⟨cd,k⟩|⟨rfl,he⟩
  ·rw[h2 t (by omega)];exact h.eD t y o k ho
  ·rw[h1]
   intro e
   have:=Rq _ e
   have:=(h.qI ho).1
   have e2:g'.ob o=g.ob o:=rfl
   omega
 ·intro t e' CP n aY ht
  rcases hold t _ ht with ⟨cd,nO⟩|⟨rfl,he⟩
  ·rw[h2 t (by omega)]
   obtain ⟨ys,k1,k2,k3⟩:=h.own t e' CP n aY nO
   exact ⟨ys,dc k1 λb hb=>iX.block b (k1.lt b hb).2,λb hb=>(g5 b (k1.lt b hb).2).trans (k2 b hb),k3.mono uQ⟩
  ·subst he
   rw[h1]
   exact ⟨xs,nv,λb hb=>(r6 b hb).trans (uO rfl),(lI aY rfl).mono uQ⟩
 ·rcases hw with ⟨o,a1,a2⟩|⟨t,y,a1,a2⟩
  ·exact .inl ⟨o,a1,a2⟩
  ·rcases hold t _ a1 with ⟨cd,k⟩|⟨rfl,he⟩
   ·rw[h2 t (by omega)] at a2
    exact .inr ⟨t,y,k,a2⟩
   ·rw[h1] at a2
    have:=Rq b a2
    omega
theorem Inv.BD (h:Inv g base w st) (e sz:Nat):∃ g',g'.tk st.al.length=.slice none 0 0/\Inv g' base w (st.tok ⟨e,sz,0,none⟩)/\Step base g w st g' w (st.tok ⟨e,sz,0,none⟩):=by
 obtain ⟨g',h1,_,_,h2,h3⟩:=h.BC ⟨e,sz,0,none⟩ (World.ownsRow_nil w base _ _) (.inl ⟨rfl,rfl⟩) (λrows hh=>by cases hh)
 exact ⟨g',h1,h2,h3⟩
end append
section rules
variable {P:uG} {f:Ctx} {N:Nat} {S:Start} {Q:EV->St->Prop} {k:List Item} {base:Nat} {env:Env} {st:St} {ops rest:List Oper}
 {d:Option Tmp} {ty:uE} {pos:String} {after:uD Edge} {gd:Option (Nat×Bool)} {t t2 e:uE} {x y:uH}
theorem xS {w:uC} {ty sz:Nat} {inf:TypeInfo} {z:uB} {d2:TypeDesc} (ht:P.underlying t=some (.slice e)) (vP:P.underlying t2=some d2) (zX:d2=.string∨∃ e2,d2=.slice e2) (hi:P.info? e=some inf) (hz:inf.zero=some z) (cM:inf.size=sz)
  {u:uB} {m:Nat} {news:List uB} (hs:Src P w sz u m news) (C1:m<=4611686018427387904) (hn:m*inf.bytes<=140737488355328) (A:Option Addr) :
  (m=0->(Builtin.append_ #[t,t2] ty #[.slice A 0 0,u]).run P w=.ok (.slice A 0 0) w) /\
  (m≠0->(Builtin.append_ #[t,t2] ty #[.slice A 0 0,u]).run P w=(Builtin.append_ #[t,t2] ty #[.slice none 0 0,u]).run P w):=by
 have hl:=hs.len
 have WX:(match d2 with|.int _=>true|_=>false)=false:=by rcases zX with rfl|⟨e2,rfl⟩<;>rfl
 subst cM
 constructor
 ·intro hm
  subst hm
  have R6:news=[]:=List.eq_nil_of_length_eq_zero (by simpa using hs.size)
  subst R6
  have hf:=hs.cells w rfl
  rcases zX with rfl|⟨e2,rfl⟩<;>cases A<;>simp[Builtin.append_,run_underlying ht,run_underlying vP,sizeOf,typeInfo,hi,hl,hf,storeCells]
 ·intro hm
  have wF:¬ (m<=0):=by omega
  have h1:∀ w',(Builtin.firstCells inf.size 0 (.slice A 0 0)).run P w'=.ok #[] w':=λw'=>by cases A<;>simp[Builtin.firstCells,loadCells,loadCellsFrom]
  have h2:∀ w',(Builtin.firstCells inf.size 0 (.slice none 0 0)).run P w'=.ok #[] w':=λw'=>by simp[Builtin.firstCells]
  have FA:¬ (9223372036854775807<(m:Int)):=by omega
  have FB:¬ (281474976710656<Builtin.nextslicecap m 0*inf.bytes):=by
   have:=growslice_fits (need:=m) (old:=0) (by omega) hn
   omega
  rcases zX with rfl|⟨e2,rfl⟩<;>simp[Builtin.append_,run_underlying ht,run_underlying vP,sizeOf,typeInfo,hi,hl,hm,h1,h2,FA,FB,Question.forced]
theorem C3 {g:br} {w:uC} {v u z:uB} {sz tk:Nat} {rows aY:O (O D)} {inf:TypeInfo} {d2:TypeDesc} (ht:P.underlying t=some (.slice e)) (vP:P.underlying t2=some d2) (zX:d2=.string∨∃ e2,d2=.slice e2)
  (hi:P.info? e=some inf) (hz:inf.zero=some z) (cM:inf.size=sz) (m9:z.cells.size=sz) (hinv:Inv g base w st) (wG:bm g w st (.bX sz rows tk) v) (dO:st.al[tk]?=some ⟨e,sz,rows.length,none⟩) (GW:v=g.tk tk)
  (hn:(rows.length+aY.length)*inf.bytes<=140737488355328) (C1:rows.length+aY.length<=4611686018427387904)
  {news:O uB} (pz:r5 P g.bl w sz u aY news) :
  ∃ v' g' w',(Builtin.append_ #[t,t2] ty #[v,u]).run P w=.ok v' w'/\bm g' w' (st.a8 tk ⟨e,sz,(rows++aY).length,none⟩) (.bX sz (rows++aY) tk) v'/\Inv g' base w' (st.a8 tk ⟨e,sz,(rows++aY).length,none⟩) /\
   Step base g w st g' w' (st.a8 tk ⟨e,sz,(rows++aY).length,none⟩):=by
 rw[show (rows++aY).length=rows.length+aY.length from List.length_append]
 cases wG with
 | bX _ _ _ _ e0 n0 hd PC R6 UC =>
  rw[dO] at PC
  cases PC
  obtain ⟨xs,nv,tR⟩:=hinv.tail tk e sz _ dO
  obtain ⟨v',w',r7,im,ML,hc⟩:=pb (P:=P) (ty:=ty) w ht vP zX hi hz cM m9 nv pz.src (by simp only[maxLen];omega) hn hinv.base
  obtain ⟨g',UD,JX,cF,nn⟩:=hinv.append dO nv im ML hc
  refine ⟨v',g',w',?_,?_,cF,nn⟩
  ·rw[GW];exact r7
  ·have hlen:tk<st.al.length:=(List.getElem?_eq_some_iff.1 dO).1
   obtain ⟨A,c,vs,V8,Ya,hA,xQ,cX,Mv,lI⟩:=JS hd
   refine .bX sz _ tk v' e (rows.length+aY.length) (FC im (by simp) ?_ (λb hb=>Nat.le_of_eq (JX b hb).symm) ?_) (by simp[St.a8,List.getElem?_set,hlen]) (by simp) (λ_=>.inl UD.symm)
   ·intro row hr
    rcases List.mem_append.1 hr with h|h
    ·exact Mv row h
    ·exact pz.rows row h
   ·intro j u c' hu kn
    rw[List.flatten_append] at kn
    have By:=jw Mv
    have Ii:=nv.1
    by_cases hj:j<xs.length
    ·rw[List.getElem?_append_left hj] at hu
     rw[List.getElem?_append_left (by omega)] at kn
     have WY:j<vs.length:=by omega
     have V9:vs[j]?=some u:=by
      have e1:=List.getElem?_eq_getElem WY
      rcases hA with h0|⟨b,off,uN⟩
      ·rw[h0] at Ii;omega
      ·have c1:=cX b off uN j _ e1
       have zO:(g.tk tk).ownBlock=some b/\off=0:=by
        rcases nv.2 with ⟨h1,h2⟩|⟨gb,cap,cur,h1,_⟩
        ·rw[h2] at Ii;omega
        ·rw[←GW,V8,uN] at h1
         cases h1
         exact ⟨by rw[←GW,V8,uN];rfl,rfl⟩
       have c2:=nv.cells zO.1 j u hu
       rw[Addr.add_lit] at c2
       rw[zO.2,c2] at c1
       cases c1
       exact e1
     exact ⟨(lI j u c' V9 kn).1.mono nn.du.bI,(lI j u c' V9 kn).2⟩
    ·rw[List.getElem?_append_right (by omega)] at hu
     rw[List.getElem?_append_right (by omega)] at kn
     have e1:rows.flatten.length=xs.length:=by omega
     rw[e1] at kn
     exact ⟨(pz.rep _ u c' hu kn).1.mono nn.du.bI,(pz.rep _ u c' hu kn).2⟩
theorem xT {g:br} {w:uC} {v u z:uB} {sz tk:Nat} {rows aY:O (O D)} {inf:TypeInfo} {d2:TypeDesc} (ht:P.underlying t=some (.slice e)) (vP:P.underlying t2=some d2) (zX:d2=.string∨∃ e2,d2=.slice e2)
  (hi:P.info? e=some inf) (hz:inf.zero=some z) (cM:inf.size=sz) (m9:z.cells.size=sz) (hinv:Inv g base w st) (wG:bm g w st (.bX sz rows tk) v) (dO:st.al[tk]?=some ⟨e,sz,rows.length,none⟩)
  (hn:(rows.length+aY.length)*inf.bytes<=140737488355328) (C1:rows.length+aY.length<=4611686018427387904)
  {news:O uB} (pz:r5 P g.bl w sz u aY news) :
  ∃ v' g' w',(Builtin.append_ #[t,t2] ty #[v,u]).run P w=.ok v' w'/\bm g' w' (st.a8 tk ⟨e,sz,(rows++aY).length,none⟩) (.bX sz (rows++aY) tk) v'/\Inv g' base w' (st.a8 tk ⟨e,sz,(rows++aY).length,none⟩) /\
   Step base g w st g' w' (st.a8 tk ⟨e,sz,(rows++aY).length,none⟩):=by
 by_cases GW:v=g.tk tk
 ·exact C3 ht vP zX hi hz cM m9 hinv wG dO GW hn C1 pz
 cases wG with
 | bX _ _ _ _ e0 n0 hd PC R6 UC =>
  rw[dO] at PC
  cases PC
  obtain ⟨h0,A,hA⟩:=(UC rfl).resolve_left GW
  have R7:rows=[]:=List.eq_nil_of_length_eq_zero h0
  subst R7
  simp only[List.length_nil,Nat.zero_add] at hn C1
  obtain ⟨q1,q2⟩:=xS (P:=P) (ty:=ty) ht vP zX hi hz cM pz.src C1 hn A
  have JY:st.al[tk]?=some ⟨e,sz,0,none⟩:=dO
  have hlen:tk<st.al.length:=(List.getElem?_eq_some_iff.1 JY).1
  by_cases hm:aY.length=0
  ·have WZ:aY=[]:=List.eq_nil_of_length_eq_zero hm
   subst WZ
   have iq:st.a8 tk ⟨e,sz,0,none⟩=st:=by
    unfold St.a8
    have:st.al.set tk ⟨e,sz,0,none⟩=st.al:=by
     apply List.ext_getElem?
     intro i
     rw[List.getElem?_set]
     split
     ·rename_i hi';subst hi';rw[JY]
     ·rfl
    rw[this]
   simp only[List.append_nil,List.length_nil]
   rw[iq]
   exact ⟨v,g,w,by rw[hA];exact q1 rfl,.bX sz [] tk v e 0 hd JY (Nat.le_refl _) (λ_=>.inr ⟨rfl,A,hA⟩),hinv,.refl _ _ _ _⟩
  ·obtain ⟨xs,nv,_⟩:=hinv.tail tk e sz _ JY
   have W0:xs=[]:=List.eq_nil_of_length_eq_zero (by rw[nv.1];simp)
   subst W0
   obtain ⟨v',w',r7,im,_,hc⟩:=pb (P:=P) (ty:=ty) w ht vP zX hi hz cM m9 (World.ownsRow_nil w base e sz) pz.src (by simp only[maxLen];omega) (by simpa using hn) hinv.base
   have kn:v'.ownBlock=some w.heap.size/\Below w.heap.size w w':=by
    rcases hc with ⟨h1,_⟩|h
    ·exfalso
     rcases im.2 with ⟨_,h2⟩|⟨gb,cap,cur,h2,_⟩
     ·exact hm (by omega)
     ·rw[h2] at h1;cases h1
    ·exact h
   obtain ⟨g',UD,JX,cF,nn⟩:=hinv.append (xs:=[]) JY nv im (λh=>absurd h hm) (.inr kn)
   have e1:([]++aY:O (O D)).length=0+aY.length:=by simp
   rw[e1]
   refine ⟨v',g',w',by rw[hA,q2 hm];exact r7,?_,cF,nn⟩
   refine .bX sz _ tk v' e (0+aY.length) (FC im (by simp) (λrow hr=>pz.rows row (by simpa using hr)) (λb hb=>Nat.le_of_eq (JX b hb).symm) λj u c' hu kn=>?_) (by simp[St.a8,List.getElem?_set,hlen]) (by simp) (λ_=>.inl UD.symm)
   rw[List.nil_append] at hu kn
   exact ⟨(pz.rep _ u c' hu kn).1.mono nn.du.bI,(pz.rep _ u c' hu kn).2⟩
theorem wH {sz tk:Nat} {rows aY:O (O D)} {inf:TypeInfo} {z:uB} {d2:TypeDesc} (ht:P.underlying t=some (.slice e)) (vP:P.underlying t2=some d2) (zX:d2=.string∨∃ e2,d2=.slice e2)
  (hi:P.info? e=some inf) (hz:inf.zero=some z) (cM:inf.size=sz) (m9:z.cells.size=sz) (hx:bI env x=some (.bX sz rows tk)) (dO:st.al[tk]?=some ⟨e,sz,rows.length,none⟩)
  (hn:(rows.length+aY.length)*inf.bytes<=140737488355328) (C1:rows.length+aY.length<=4611686018427387904)
  (C4:∀ (g:br) (w:uC) (tmps:uD uB),cJ g w st env tmps->∃ news,r5 P g.bl w sz (Act.eval ⟨tmps,[]⟩ y) aY news) :
  tQ P base env st ⟨d,.call ⟨.builtin .append,#[x,y],#[t,t2]⟩,ty,pos,after,gd⟩ (.bX sz (rows++aY) tk) (st.a8 tk ⟨e,sz,(rows++aY).length,none⟩):=by
 intro g w tmps hinv he
 obtain ⟨news,pz⟩:=C4 g w tmps he
 obtain ⟨v',g',w',r7,h1,h2,h3⟩:=xT (ty:=ty) ht vP zX hi hz cM m9 hinv (aA he hx) dO hn C1 pz
 exact ⟨v',g',w',by simp[execOp,resolve,invoke,builtin,r7],h1,h2,h3⟩
theorem JZ {sz tk:Nat} {rows aY:O (O D)} {inf:TypeInfo} {z:uB} {ev:EV} (ht:P.underlying t=some (.slice e)) (hi:P.info? e=some inf) (hz:inf.zero=some z) (cM:inf.size=sz) (m9:z.cells.size=sz)
  (hx:bI env x=some (.bX sz rows tk)) (dO:st.al[tk]?=some ⟨e,sz,rows.length,none⟩) (hy:bI env y=some ev) (hs:oa ev=some (sz,aY))
  (hn:(rows.length+aY.length)*inf.bytes<=140737488355328) (C1:rows.length+aY.length<=4611686018427387904) :
  tQ P base env st ⟨d,.call ⟨.builtin .append,#[x,y],#[t,t]⟩,ty,pos,after,gd⟩ (.bX sz (rows++aY) tk) (st.a8 tk ⟨e,sz,(rows++aY).length,none⟩) :=
 wH ht ht (.inr ⟨e,rfl⟩) hi hz cM m9 hx dO hn C1 λg w tmps he=>pS (ko hs (aA he hy))
theorem C5 {rows:O (O D)} {l:O uA} {tk:Nat} {inf:TypeInfo} {z:uB} (ht:P.underlying t=some (.slice e)) (vP:P.underlying t2=some .string) (hi:P.info? e=some inf) (hz:inf.zero=some z) (cM:inf.size=1) (m9:z.cells.size=1)
  (hx:bI env x=some (.bX 1 rows tk)) (dO:st.al[tk]?=some ⟨e,1,rows.length,none⟩) (hy:bI env y=some (.d (.ex (.string ⟨l.toArray⟩))))
  (hn:(rows.length+l.length)*inf.bytes<=140737488355328) (C1:rows.length+l.length<=4611686018427387904) :
  tQ P base env st ⟨d,.call ⟨.builtin .append,#[x,y],#[t,t2]⟩,ty,pos,after,gd⟩ (.bX 1 (rows++dH l) tk) (st.a8 tk ⟨e,1,(rows++dH l).length,none⟩) :=
 wH ht vP (.inl rfl) hi hz cM m9 hx dO (by simpa [dH] using hn) (by simpa [dH] using C1) λg w tmps he=>⟨_,by rw[(aA he hy).aZ];exact FD l⟩
theorem Ij {sz:Nat} {aY:O (O D)} {inf:TypeInfo} {z:uB} {ev e0:EV} (ht:P.underlying t=some (.slice e)) (hi:P.info? e=some inf) (hz:inf.zero=some z) (cM:inf.size=sz) (m9:z.cells.size=sz)
  (hx:bI env x=some e0) (h0:e0=.d (.e0 sz)∨e0=.d (.ex (.slice none 0 0))) (hy:bI env y=some ev) (hs:oa ev=some (sz,aY)) (hn:aY.length*inf.bytes<=140737488355328) (C1:aY.length<=4611686018427387904) :
  ti P env st ⟨d,.call ⟨.builtin .append,#[x,y],#[t,t]⟩,ty,pos,after,gd⟩ (.d (.sl sz aY)):=by
 intro g base w tmps hinv he
 have R8:cT g.bl w (.e0 sz) (Act.eval ⟨tmps,[]⟩ x):=by
  rcases h0 with rfl|rfl
  ·cases aA he hx with|d _ _ h=>exact h
  ·rw[(aA he hx).aZ];exact .e0 sz none (.inl rfl)
 obtain ⟨news,pz⟩:=pS (P:=P) (ko hs (aA he hy))
 generalize hv:Act.eval ⟨tmps,[]⟩ x=v at R8
 generalize hu:Act.eval ⟨tmps,[]⟩ y=u at pz
 cases R8 with
 | e0 _ A hA =>
  have hl:=pz.src.len
  by_cases hm:aY.length=0
  ·have R7:aY=[]:=List.eq_nil_of_length_eq_zero hm
   subst R7
   have R6:news=[]:=List.eq_nil_of_length_eq_zero (by simpa using pz.src.size)
   subst R6
   have hf:=pz.src.cells w rfl
   refine .inl ⟨.slice A 0 0,g.bl,w,?_,.d _ _ (D.GH (.e0 sz A hA)),.refl _ _,λ_ _=>rfl⟩
   subst cM
   simp only[List.length_nil] at hl hf
   cases A<;>simp[execOp,hv,hu,resolve,invoke,builtin,Builtin.append_,run_underlying ht,sizeOf,typeInfo,hi,hl,hf,storeCells]
  ·have By:=jw pz.rows
   have Uz:=grownCap_ge w aY.length 0 e
   obtain ⟨b9,h1,h2,h3⟩:=GS (g:=g) (w:=w) (w0:=w.drew) (sz:=sz) (cap:=grownCap w aY.length 0 e) (rows:=aY) (vs:=news.toArray++Builtin.zeroCells z.cells (grownCap w aY.length 0 e-aY.length)) (e:=e) rfl rfl rfl rfl
    pz.rows Uz (by simp[pz.src.size]) (λi c v hc R9=>by
     have hi':i<news.length:=by have:=(List.getElem?_eq_some_iff.1 hc).1;rw[pz.src.size];omega
     rw[Array.getElem?_append_left (by simpa using hi')] at R9
     exact pz.rep i v c (by simpa using R9) hc)
   refine .inl ⟨_,b9,_,?_,.d _ _ h1,h2,h3⟩
   have hf:=pz.src.cells w.drew rfl
   subst cM
   have FA:¬ (9223372036854775807<(aY.length:Int)):=by omega
   have FB:¬ (281474976710656<Builtin.nextslicecap aY.length 0*inf.bytes):=by
    have:=growslice_fits (need:=aY.length) (old:=0) (by omega) hn
    omega
   have PD:(Builtin.firstCells inf.size 0 (.slice A 0 0)).run P w.drew=.ok #[] w.drew:=by cases A<;>simp[Builtin.firstCells,loadCells,loadCellsFrom]
   have wF:aY≠[]:=λhh=>hm (by rw[hh];rfl)
   simp[execOp,hv,hu,resolve,invoke,builtin,Builtin.append_,run_underlying ht,sizeOf,typeInfo,zeroValue,hi,hz,hl,wF,FA,FB,Question.forced,PD,hf,newRow,grownCap]
theorem ba.tok {todo:O Item} {i e sz:Nat} (hx:lookup i env=some (.d (.ex (.slice none 0 0)))) (h:ba P f N S Q todo ((i,.bX sz [] st.al.length)::env) (st.tok ⟨e,sz,0,none⟩)):ba P f N S Q todo env st:=by
 intro g w tmps hinv hh he hn
 obtain ⟨g',h1,cF,hs⟩:=hinv.BD e sz
 refine h g' w tmps cF (hh.step hs) ?_ hn
 intro j y hy
 unfold lookup at hy
 cases hb:Nat.beq j i with
 | true =>
  rw[hb] at hy
  simp only[Option.some.injEq] at hy
  subst hy
  have:=Nat.eq_of_beq_eq_true hb
  subst this
  obtain ⟨v,k1,k2⟩:=he j _ hx
  rw[k2.aZ] at k1
  exact ⟨_,k1,.bX sz [] _ _ e 0 (.nil sz _) (by simp[St.tok]) (Nat.le_refl _) (λ_=>.inl h1.symm)⟩
 | false =>
  rw[hb] at hy
  exact (he.mono hs.du) j y hy
theorem C6 {sz:Nat} {aY:O (O D)} {inf:TypeInfo} {z:uB} {ev:EV} (ht:P.underlying t=some (.slice e)) (hi:P.info? e=some inf) (hz:inf.zero=some z) (cM:inf.size=sz) (m9:z.cells.size=sz)
  (hx:bI env x=some (.d (.ex (.slice none 0 0)))) (hy:bI env y=some ev) (hs:oa ev=some (sz,aY))
  (hn:aY.length*inf.bytes<=140737488355328) (C1:aY.length<=4611686018427387904) :
  tQ P base env st ⟨d,.call ⟨.builtin .append,#[x,y],#[t,t]⟩,ty,pos,after,gd⟩ (.bX sz aY st.al.length) ((st.tok ⟨e,sz,0,none⟩).a8 st.al.length ⟨e,sz,aY.length,none⟩):=by
 intro g w tmps hinv he
 obtain ⟨g1,k1,k2,k3⟩:=hinv.BD e sz
 obtain ⟨news,pz⟩:=pS (P:=P) ((ko hs (aA he hy)).mono k3.du.bI)
 obtain ⟨v',g',w',r7,h1,h2,h3⟩:=xT (ty:=ty) (rows:=[]) ht ht (.inr ⟨e,rfl⟩) hi hz cM m9 k2 (.bX sz [] st.al.length (.slice none 0 0) e 0 (.nil sz _) (by simp[St.tok]) (Nat.le_refl _) (λ_=>.inl k1.symm)) (by simp[St.tok]) (by simpa using hn) (by simpa using C1) pz
 exact ⟨v',g',w',by simp[execOp,(aA he hx).aZ,resolve,invoke,builtin,r7],by simpa using h1,by simpa using h2,by simpa using k3.trans h3⟩
end rules
def lay (cells new:uD uB) (off:Nat):uD uB:=new.zipIdx.foldl (λcs (c,j)=>cs.setIfInBounds (off+j) c) cells
theorem C7 (off:Nat):∀ (l:O uB) (k:Nat) (cells:uD uB),((l.zipIdx k).foldl (λ(cs:uD uB) (p:uB×Nat)=>cs.setIfInBounds (off+p.2) p.1) cells).size=cells.size /\
  ∀ i,i<cells.size->((l.zipIdx k).foldl (λ(cs:uD uB) (p:uB×Nat)=>cs.setIfInBounds (off+p.2) p.1) cells)[i]?=if off+k<=i/\i<off+k+l.length then l[i-(off+k)]? else cells[i]?
 | [],k,cells=>by simp;intro i hi h1 h2;omega
 | v::l,k,cells=>by
  obtain ⟨h1,h2⟩:=C7 off l (k+1) (cells.setIfInBounds (off+k) v)
  rw[List.zipIdx_cons,List.foldl_cons]
  refine ⟨by rw[h1];simp,λi hi=>?_⟩
  rw[h2 i (by simpa using hi)]
  by_cases hc:off+(k+1)<=i/\i<off+(k+1)+l.length
  ·rw[if_pos hc,if_pos (by simp;omega)]
   have:i-(off+k)=(i-(off+(k+1)))+1:=by omega
   rw[this,List.getElem?_cons_succ]
  ·rw[if_neg hc]
   by_cases he:i=off+k
   ·subst he
    rw[if_pos (by simp)]
    simp[hi]
   ·rw[if_neg (by simp;omega)]
    simp[Array.getElem?_setIfInBounds,Ne.symm he]
theorem GX (cells new:uD uB) (off:Nat) (h:off+new.size<=cells.size) :
  (lay cells new off).size=cells.size/\∀ i,i<cells.size->(lay cells new off)[i]?=if off<=i/\i<off+new.size then new[i-off]? else cells[i]?:=by
 have:=C7 off new.toList 0 cells
 unfold lay
 rw[←Array.foldl_toList,Array.toList_zipIdx]
 simpa using this
def BE (bl:Nat->Nat) (w:uC) (cs:List D) (vs:uD uB):Prop :=
 vs.size=cs.length/\∀ (i:Nat) c (u:uB),cs[i]?=some c->vs[i]?=some u->cT bl w c u/\u.oneCell'=true
def J0 (cs:List D) (off:Nat) (new:List D):List D:=cs.take off++new++cs.drop (off+new.length)
theorem BE.lay {bl:Nat->Nat} {w:uC} {cs new:O D} {vs us:uD uB} {off:Nat} (h:BE bl w cs vs) (hn:BE bl w new us) (hf:off+new.length<=cs.length):BE bl w (J0 cs off new) (lay vs us off):=by
 obtain ⟨h1,h2⟩:=GX vs us off (by rw[h.1,hn.1];exact hf)
 refine ⟨by rw[h1,h.1];simp[J0];omega,λi c u hc hu=>?_⟩
 have hi:i<vs.size:=by rw[←h1];exact (Array.getElem?_eq_some_iff.1 hu).1
 rw[h2 i hi] at hu
 unfold J0 at hc
 have zV:=h.1
 have Sa:=hn.1
 by_cases hA:i<off
 ·rw[if_neg (by omega)] at hu
  rw[List.append_assoc,List.getElem?_append_left (by simp;omega),List.getElem?_take,if_pos hA] at hc
  exact h.2 i c u hc hu
 ·by_cases hB:i<off+new.length
  ·rw[if_pos (by omega)] at hu
   rw[List.append_assoc,List.getElem?_append_right (by simp;omega),List.getElem?_append_left (by simp;omega)] at hc
   have e1:(cs.take off).length=off:=by simp;omega
   rw[e1] at hc
   exact hn.2 _ c u hc hu
  ·rw[if_neg (by omega)] at hu
   rw[List.getElem?_append_right (by simp;omega)] at hc
   have e1:(cs.take off++new).length=off+new.length:=by simp;omega
   rw[e1,List.getElem?_drop] at hc
   have e2:off+new.length+(i-(off+new.length))=i:=by omega
   rw[e2] at hc
   exact h.2 i c u hc hu
def cellsD:EV->Option (List D)
 | .d (.ex v)=>if v.oneCell' then some [.ex v] else none
 | .d (.agg cs)=>some cs
 | .d (.sl sz rows)=>some [.sl sz rows]
 | .d (.ro cs)=>some [.ro cs]
 | .d (.e0 sz)=>some [.e0 sz]
 | .bX sz rows _=>some [.sl sz rows]
 | _=>none
theorem j4 {g:br} {w:uC} {st:St} {e:EV} {cs:O D} {v:uB} (h:cellsD e=some cs) (hv:bm g w st e v):BE g.bl w cs v.cells:=by
 have key:∀ {e':EV} {zP:O EV},dj e'=some zP->zP=cs.map EV.d->bm g w st e' v->BE g.bl w cs v.cells:=by
  intro e' zP hc hm J1
  obtain ⟨k1,k2⟩:=lG hc J1
  refine ⟨by rw[k1,hm];simp,λi c u kn hu=>?_⟩
  have:=k2 i (.d c) u (by rw[hm,List.getElem?_map,kn];rfl) hu
  exact ⟨by cases this.1 with|d _ _ h=>exact h,this.2⟩
 cases e with
 | d x =>
  cases x with
  | ex u =>
   simp only[cellsD] at h
   split at h
   ·rename_i h1
    cases h
    exact key (e':=.d (.ex u)) (by simp only[dj];rw[if_pos h1];rfl) rfl hv
   ·cases h
  | agg zP=>cases h;exact key (e':=.d (.agg cs)) rfl rfl hv
  | dp=>cases h
  | sl sz rows=>cases h;exact key (e':=.d (.sl sz rows)) rfl rfl hv
  | ro zP=>cases h;exact key (e':=.d (.ro zP)) rfl rfl hv
  | e0 sz=>cases h;exact key (e':=.d (.e0 sz)) rfl rfl hv
  | any=>cases h
 | bX sz rows t =>
  cases h
  cases hv with|bX _ _ _ _ _ _ hd=>exact key (e':=.d (.sl sz rows)) rfl rfl (.d _ _ hd)
 | ref=>cases h
 | wW=>cases h
 | mp=>cases h
 | xj=>cases h
 | agg=>cases h
 | dp=>cases h
 | gd=>cases h
 | vc=>cases h
 | vp=>cases h
 | vw=>cases h
def zY (place:Nat->Option (Nat×Nat)) (env:Env):List D->List (Nat×uH)->Option (List D)
 | cs,[]=>some cs
 | cs,(i,x)::l=>match place i,bI env x with
  | some (off,size),some e=>match cellsD e with
   | some new=>match Nat.beq new.length size,Nat.ble (off+size) cs.length with
    | true,true=>zY place env (J0 cs off new) l
    | _,_=>none
   | none=>none
  | _,_=>none
theorem r8 {g:br} {w:uC} {st:St} {env:Env} {tmps:uD uB} (he:cJ g w st env tmps) {place:Nat->J (Nat×Nat)}:∀ (l:O (Nat×uH)) (cs:O D) (vs:uD uB) (r:O D),zY place env cs l=some r->BE g.bl w cs vs ->
  ∃ us,Instr.fill place vs (l.map λp=>(p.1,Act.eval ⟨tmps,[]⟩ p.2))=some us/\BE g.bl w r us/\r.length=cs.length
 | [],cs,vs,r,h,hc=>by simp[zY] at h;subst h;exact ⟨vs,rfl,hc,rfl⟩
 | (i,x)::l,cs,vs,r,h,hc=>by
  unfold zY at h
  split at h
  ·rename_i off size e hp hx
   split at h
   ·rename_i new hn
    split at h
    ·rename_i Jz JA
     have h1:=Nat.eq_of_beq_eq_true Jz
     have h2:=Nat.le_of_ble_eq_true JA
     have Sb:=j4 hn (aA he hx)
     have PE:=hc.lay Sb (off:=off) (by omega)
     obtain ⟨us,k1,k2,k3⟩:=r8 he l _ _ r h PE
     refine ⟨us,?_,k2,by rw[k3];simp[J0];omega⟩
     have hs:=Sb.1
     have zV:=hc.1
     simp only[List.map_cons,Instr.fill,hp]
     rw[if_neg (by simp;omega)]
     exact k1
    ·cases h
   ·cases h
  ·cases h
def C8 (P:uG) (t:uE):Nat:=match P.info? t with
 | some i=>i.size
 | none=>0
def placeOf (P:uG) (fs:uD Field) (i:Nat):Option (Nat×Nat):=(fs[i]?).map λf=>(f.offset,C8 P f.type)
section rules
variable {P:uG} {f:Ctx} {N:Nat} {S:Start} {Q:EV->St->Prop} {k:List Item} {base:Nat} {env:Env} {st:St} {ops rest:List Oper}
 {d:Option Tmp} {ty:uE} {pos:String} {after:uD Edge} {gd:Option (Nat×Bool)} {t t2 e:uE} {x y:uH}
theorem r9 {inf:TypeInfo} {z:uB} (hi:P.info? t=some inf) (hz:inf.zero=some z) (w:uC):(zeroValue t).run P w=.ok z w:=by simp[zeroValue,typeInfo,hi,hz]
theorem wI (fs:O Field) (h:∀ f∈fs,(P.info? f.type).isSome) (w:uC):(fs.mapM (λf=>do pure (f.offset,←sizeOf f.type):Field->Sem (Nat×Nat))).run P w=.ok (fs.map λf=>(f.offset,C8 P f.type)) w:=by
 induction fs with
 | nil=>rfl
 | cons f fs ih =>
  obtain ⟨i,hi⟩:=Option.isSome_iff_exists.1 (h f (by simp))
  have UE:=ih (λg hg=>h g (by simp[hg]))
  simp only[List.mapM_cons,Sem.run_bind,o9 hi,Result.andThen_ok,Sem.run_pure,UE,List.map_cons,C8,hi]
theorem MO {fs:uD Field} {inf:TypeInfo} {z:uB} {zs r:O D} {l:O (Nat×uH)} (ht:P.underlying t=some (.struct fs)) (hi:P.info? t=some inf) (hz:inf.zero=some z) (m9:cellsD (.d (cv z))=some zs)
  (MP:fs.toList.all (λf=>(P.info? f.type).isSome)=true) (hl:zY (placeOf P fs) env zs l=some r):az P env st ⟨d,.build t l.toArray,ty,pos,after,gd⟩ (.d (.agg r)):=by
 intro g base w tmps hinv he
 have wY:=j4 (g:=g) (w:=w) (st:=st) m9 (.d _ _ (qG _ _ z))
 obtain ⟨us,h1,h2,h3⟩:=r8 he l zs z.cells r hl wY
 refine ⟨.agg us,.d _ _ (.agg r us h2.1 (λi u hu=>?_) λi c u hc hu=>(h2.2 i c u hc hu).1),λw' hb=>?_⟩
 ·have hi':i<r.length:=by rw[←h2.1];exact (Array.getElem?_eq_some_iff.1 hu).1
  exact (h2.2 i _ u (List.getElem?_eq_getElem hi') hu).2
 ·have Sc:(fs.mapM (λf=>do pure (f.offset,←sizeOf f.type):Field->Sem (Nat×Nat))).run P w'=.ok (fs.toList.map λf=>(f.offset,C8 P f.type)).toArray w':=by
   rw[←Array.toArray_toList (xs:=fs),List.mapM_toArray]
   simp only[Sem.run_map,wI (P:=P) fs.toList (λf hf=>List.all_eq_true.1 MP f hf) w',Result.andThen_ok]
  have FF:(λi:Nat=>((fs.toList.map λf=>(f.offset,C8 P f.type)).toArray)[i]?)=placeOf P fs:=by
   funext i
   simp[placeOf]
  simp only[execOp,Instr.build,Sem.run_bind,r9 hi hz,Result.andThen_ok,run_underlying ht,Sc,List.map_toArray]
  rw[FF]
  simp[h1]
theorem uS {len sz:Nat} {inf:TypeInfo} {z:uB} {zs:O D} {rows:O (O D)} {l:O (Nat×uH)} (ht:P.underlying t=some (.slice e)) (hi:P.info? e=some inf) (iW:inf.size=sz) (hz:inf.zero=some z) (m9:z.cells.size=sz)
  (hlen:0<len) (FG:len*sz<=16777216) (Wa:(List.replicate len zs).flatten.length=len*sz) (Mw:cellsD (.d (cv z))=some zs)
  (hl:zY (λi=>some (i*sz,sz)) env (List.replicate len zs).flatten l=some rows.flatten) (hr:rows.all (λr=>Nat.beq r.length sz)=true) (hn:rows.length=len) (Mx:0<sz) :
  ti P env st ⟨d,.buildSlice t len l.toArray,ty,pos,after,gd⟩ (.d (.sl sz rows)):=by
 intro g base w tmps hinv he
 have wY:=j4 (g:=g) (w:=w) (st:=st) Mw (.d _ _ (qG _ _ z))
 have Rr:zs.length=sz:=by rw[←wY.1,m9]
 have od:∀ row∈rows,row.length=sz:=by
  intro row hm
  rw[List.all_eq_true] at hr
  exact Nat.eq_of_beq_eq_true (hr row hm)
 have Bz:BE g.bl w (List.replicate len zs).flatten ((Array.range (len*sz)).map (z.cells[· % z.cells.size]!)):=by
  refine ⟨by simp[Wa],λi c u hc hu=>?_⟩
  have lA:i<len*sz:=by rw[←Wa];exact (List.getElem?_eq_some_iff.1 hc).1
  have tT:i % sz<sz:=Nat.mod_lt _ Mx
  have hdiv:i / sz<len:=Nat.div_lt_of_lt_mul (by rw[Nat.mul_comm];exact lA)
  have JU:i=i / sz*sz+i % sz:=by rw[Nat.mul_comm];exact (Nat.div_add_mod i sz).symm
  have hf:=mF (rows:=List.replicate len zs) (sz:=sz) (i:=i / sz) (j:=i % sz) (row:=zs) (c:=zs[i % sz]'(by omega)) (by intro row hm;rw[List.eq_of_mem_replicate hm];exact Rr) (by simp[List.getElem?_replicate,hdiv]) (List.getElem?_eq_getElem (by omega))
  rw[←JU,hc] at hf
  have UF:zs[i % sz]?=some c:=by cases hf;exact List.getElem?_eq_getElem (by omega)
  have W1:z.cells[i % sz]?=some u:=by
   have jv:i % sz<z.cells.size:=by omega
   have:((Array.range (len*sz)).map (z.cells[· % z.cells.size]!))[i]?=some (z.cells[i % z.cells.size]!):=by simp[lA]
   rw[this] at hu
   cases hu
   rw[m9,getElem!_pos z.cells (i % sz) jv,Array.getElem?_eq_getElem jv]
  exact wY.2 _ c u UF W1
 obtain ⟨us,h1,h2,h3⟩:=r8 he l _ _ _ hl Bz
 have By:=jw od
 obtain ⟨b9,k1,k2,k3⟩:=GS (g:=g) (w:=w) (w0:=w) (sz:=sz) (cap:=len) (rows:=rows) (vs:=us) (e:=e) rfl rfl rfl rfl od (by omega) (by rw[h2.1,By];exact Nat.le_refl _) h2.2
 refine .inl ⟨.slice (some ⟨w.heap.size,0,none⟩) len len,b9,_,?_,.d _ _ (by rw[hn] at k1;exact k1),k2,k3⟩
 subst iW
 have OI:¬ (16777216<len*inf.size):=by omega
 have dq:¬ (len=0∨inf.size=0):=by omega
 have mG:¬ len*inf.size=0:=by
  intro h0
  rcases Nat.mul_eq_zero.1 h0 with h|h<;>omega
 have Bx:Instr.fill (λi=>some (i*inf.size,inf.size)) (Array.map (λx=>z.cells[x % z.cells.size]!) (Array.range (len*inf.size))) (List.map (λp=>(p.1,Act.eval ⟨tmps,[]⟩ p.2)) l)=some us:=h1
 simp[execOp,Instr.buildSlice,run_underlying ht,o9 hi,OI,mG,r9 hi hz,Bx,newRow]
theorem bp {inf:TypeInfo} (ht:P.underlying t=some (.slice e)) (hi:P.info? e=some inf) :
  ti P env st ⟨d,.buildSlice t 0 #[],ty,pos,after,gd⟩ (.d (.e0 inf.size)):=by
 intro g base w tmps hinv he
 refine .inl ⟨.slice (some ⟨w.heap.size,0,none⟩) 0 0,λb=>g.bl b,w.alloc (.cells #[] e),?_,.d _ _ (.e0 _ _ (.inr ⟨_,_,rfl⟩)),(Below.refl _ w).alloc (Nat.le_refl _) _,λ_ _=>rfl⟩
 simp[execOp,Instr.buildSlice,run_underlying ht,o9 hi,newRow,Instr.fill]
 rw[show Array.map (λ_=>(default:uB)) (Array.range 0)=#[] from by simp[Array.range_zero']]
end rules
def tmpsOf:List uH->List Tmp
 | []=>[]
 | .tmp t::l=>t::tmpsOf l
 | _::l=>tmpsOf l
def xU:Op->List Tmp
 | .move x|.assign x|.box _ x|.load _ x|.nilCheck x|.unOp _ _ x|.convert _ _ x|.sliceToArrayPointer _ x|.makeInterface _ x
 | .makeChan _ x|.fieldAddr _ x _|.field _ x _|.range _ x|.next x _|.entry x|.typeAssert x _ _ _|.extract x _|.panic x|.recv _ x _=>tmpsOf [x]
 | .pick c a b=>tmpsOf [c,a,b]
 | .build _ ps|.buildSlice _ _ ps=>tmpsOf (ps.toList.map (·.2))
 | .store _ a v|.binOp _ _ a v _|.makeSlice _ a v|.indexAddr _ a v|.index _ a v|.lookup _ a v _|.mapEntry _ a v|.send a v=>tmpsOf [a,v]
 | .makeFunc _ first captured=>tmpsOf (first.toList++captured.toList)
 | .makeMap _ r=>tmpsOf r.toList
 | .slice _ x l h m=>tmpsOf (x::(l.toList++h.toList++m.toList))
 | .mapUpdate _ m k v|.entryStore _ m k v|.insert _ m k v=>tmpsOf [m,k,v]
 | .call c=>tmpsOf ((match c.callee with|.value f=>[f]|.invoke r _=>[r]|.builtin _=>[])++c.args.toList)
 | _=>[]
def Da (l:List Oper) (o:Oper):List Tmp:=match o.guard with
 | none=>xU o.op
 | some (j,_)=>match (l[j]?).bind (·.dst) with
  | some t=>t::xU o.op
  | none=>xU o.op
def vQ (env:Env):List Tmp->Env
 | []=>[]
 | t::ts=>match lookup t env with
  | some x=>(t,x)::vQ env ts
  | none=>vQ env ts
def ir (l:List Oper) (o:Oper) (env:Env):Env:=vQ env (Da l o)
theorem oe {env:Env} {t:Tmp} {y:EV}:∀ {ts:O Tmp},lookup t (vQ env ts)=some y->t∈ts/\lookup t env=some y
 | [],h=>by simp[vQ,lookup] at h
 | s::ts,h=>by
  unfold vQ at h
  split at h
  ·rename_i x hx
   unfold lookup at h
   cases hb:Nat.beq t s with
   | true =>
    rw[hb] at h
    have:=Nat.eq_of_beq_eq_true hb
    subst this
    exact ⟨by simp,hx.trans h⟩
   | false =>
    rw[hb] at h
    obtain ⟨h1,h2⟩:=oe h
    exact ⟨by simp[h1],h2⟩
  ·obtain ⟨h1,h2⟩:=oe h
   exact ⟨by simp[h1],h2⟩
def pA (acc:List Nat):List Edge->Nat
 | []=>0
 | e::es=>(if Region.binds .any e then 2 ^ e.on ||| acc.getD e.on 0 else 0) ||| pA acc es
def cN:List Oper->List Nat->List Nat
 | [],acc=>acc
 | o::l,acc=>cN l (acc++[pA acc o.after.toList])
def pT (ar:uD Bool) (i m:Nat):Prop:=ar.getD i false=true->∀ j,m.testBit j=true->ar.getD j false=true
def qN (ops:List Oper) (ar:uD Bool):Prop:=∀ (i:Nat) o,ops[i]?=some o->ar.getD i false=true->∀ e∈o.after,Region.binds .any e=true->ar.getD e.on false=true
theorem pc {ar:uD Bool} {acc:O Nat} (h:∀ (k:Nat) m,acc[k]?=some m->pT ar k m):∀ (es:O Edge),(∀ e∈es,Region.binds .any e=true->ar.getD e.on false=true)->∀ j,(pA acc es).testBit j=true->ar.getD j false=true
 | [],_,j,hj=>by simp[pA] at hj
 | e::es,he,j,hj=>by
  unfold pA at hj
  rw[Nat.testBit_or,Bool.or_eq_true] at hj
  rcases hj with hj|hj
  ·split at hj
   ·rename_i hb
    have Wb:=he e (by simp) hb
    rw[Nat.testBit_or,Bool.or_eq_true] at hj
    rcases hj with hj|hj
    ·rw[Nat.testBit_two_pow] at hj
     have:e.on=j:=by simpa using hj
     rw[←this];exact Wb
    ·rw[List.getD_eq_getElem?_getD] at hj
     cases hm:acc[e.on]? with
     | none=>rw[hm] at hj;simp at hj
     | some m=>rw[hm] at hj;exact h e.on m hm Wb j hj
   ·simp at hj
  ·exact pc h es (λe' rX=>he e' (by simp[rX])) j hj
theorem qO {ops:O Oper} {ar:uD Bool} (hc:qN ops ar):∀ (l:O Oper) (acc:O Nat),(∀ j:Nat,l[j]?=ops[acc.length+j]?)->(∀ (k:Nat) m,acc[k]?=some m->pT ar k m) ->
  ∀ (k:Nat) m,(cN l acc)[k]?=some m->pT ar k m
 | [],acc,_,h=>h
 | o::l,acc,hl,h=>by
  unfold cN
  refine qO hc l _ (λj=>by have:=hl (j+1);simpa [Nat.add_assoc,Nat.add_comm 1 j] using this) λk m hk=>?_
  by_cases cd:k<acc.length
  ·rw[List.getElem?_append_left cd] at hk;exact h k m hk
  ·have CV:=(List.getElem?_eq_some_iff.1 hk).1
   simp at CV
   have:k=acc.length:=by omega
   subst this
   have:m=pA acc o.after.toList:=by simpa [eq_comm] using hk
   subst this
   intro BF
   have ho:ops[acc.length]?=some o:=by simpa using (hl 0).symm
   exact pc h _ (λe he hb=>hc _ o ho BF e (by simpa using he) hb)
theorem qP {ops:O Oper} {ar:uD Bool} (hc:qN ops ar) {i:Nat} {o:Oper} (ho:ops[i]?=some o) (hr:∀ e∈o.after,Region.binds .any e=true->ar.getD e.on false=true) :
  ∀ j,((cN ops []).getD i 0).testBit j=true->ar.getD j false=true:=by
 -- list it: the greater set is closed,too,but for i itself: go by the mask's own making
 have key:∀ (l:O Oper) (acc:O Nat),(∀ j:Nat,l[j]?=ops[acc.length+j]?)->(∀ (k:Nat) m,acc[k]?=some m->pT ar k m)->(acc.length<=i) ->
   ∃ PF,(cN l acc)[i]?=some (pA PF o.after.toList)/\∀ (k:Nat) m,PF[k]?=some m->pT ar k m:=by
  intro l
  induction l with
  | nil =>
   intro acc hl _ hle
   have:=hl (i-acc.length)
   rw[show acc.length+(i-acc.length)=i by omega,ho] at this
   simp at this
  | cons o' l ih =>
   intro acc hl hg hle
   have MG:∀ j:Nat,l[j]?=ops[(acc++[pA acc o'.after.toList]).length+j]?:=λj=>by have:=hl (j+1);simpa [Nat.add_assoc,Nat.add_comm 1 j] using this
   have W2:∀ (k:Nat) m,(acc++[pA acc o'.after.toList])[k]?=some m->pT ar k m:=by
    intro k m hk
    by_cases cd:k<acc.length
    ·rw[List.getElem?_append_left cd] at hk;exact hg k m hk
    ·have CV:=(List.getElem?_eq_some_iff.1 hk).1
     simp at CV
     have:k=acc.length:=by omega
     subst this
     have:m=pA acc o'.after.toList:=by simpa [eq_comm] using hk
     subst this
     intro BF
     have kj:ops[acc.length]?=some o':=by simpa using (hl 0).symm
     exact pc hg _ (λe he hb=>hc _ o' kj BF e (by simpa using he) hb)
   by_cases he:acc.length=i
   ·subst he
    have kj:o'=o:=by
     have:=hl 0
     rw[Nat.add_zero,ho] at this
     simpa using this
    subst kj
    have hm:∀ (l:O Oper) (acc:O Nat) (k:Nat) m,acc[k]?=some m->(cN l acc)[k]?=some m:=by
     intro l
     induction l with
     | nil=>intro acc k m h;exact h
     | cons Yb l UE =>
      intro acc k m h
      unfold cN
      exact UE _ k m (by rw[List.getElem?_append_left (List.getElem?_eq_some_iff.1 h).1];exact h)
    refine ⟨acc,?_,hg⟩
    unfold cN
    exact hm l _ _ _ (by simp)
   ·unfold cN
    exact ih _ MG W2 (by simp;omega)
 obtain ⟨PF,h1,h2⟩:=key ops [] (by simp) (by simp) (Nat.zero_le _)
 intro j hj
 rw[List.getD_eq_getElem?_getD,h1,Option.getD_some] at hj
 exact pc h2 _ (λe he hb=>hr e (by simpa using he) hb) j hj
def kp (n:Nat) (q:Nat->Bool):Bool:=(List.range n).all q
theorem bH {n:Nat} {q:Nat->Bool} (h:kp n q=true) {i:Nat} (hi:i<n):q i=true:=by
 unfold kp at h
 rw[List.all_eq_true] at h
 exact h i (List.mem_range.2 hi)
def cG (l:List Oper) (i:Nat):Option Tmp:=(l[i]?).bind (·.dst)
def og (l:List Oper) (p:Nat):Bool :=
 let ms:=cN l []
 kp p (λi=>match l[i]? with
  | some o=>(Da l o).all λt=>kp p λj=>i==j || cG l j != some t || (decide (j<i) && (ms.getD i 0).testBit j) || (decide (i<j) && (ms.getD j 0).testBit i)
  | none=>true) &&
 kp p (λi=>kp p λj=>i==j || (cG l i).isNone || cG l i != cG l j) &&
 kp l.length (λi=>decide (i<p) || kp i λj=>(ms.getD i 0).testBit j) &&
 kp l.length (λi=>match l[i]? with
  | some o=>o.after.toList.all λe=>!Region.binds .any e || decide (e.on<i)
  | none=>true) &&
 decide (p<=l.length)
def oh (P:uG) (l:List Oper) (env:Env) (st:St) (o:Oper) (x:EV):Prop :=
 (o.guard=none/\ti P env st o x) ∨
 ∃ (j:Nat) (want:Bool) (t:Tmp) (c:EV) (b:Bool) (y:EV) (env':Env),o.guard=some (j,want)/\(l[j]?).bind (·.dst)=some t/\lookup t env=some c/\xO c want=some b/\x=.gd b y/\tB b env env'/\(b=true->ti P env' st o y)
def dE:Env->List Oper->List EV->Env
 | env,o::os,x::xs=>dE (env.put o.dst x) os xs
 | env,_,_=>env
def uT (P:uG) (N:Nat) (l:List Oper) (st:St):List Oper->List EV->Env->Prop
 | [],[],_=>True
 | o::os,x::xs,env=>dZ N o.dst=true/\oh P l (ir l o env) st o x/\uT P N l st os xs (env.put o.dst x)
 | _,_,_=>False
theorem uT.length {P:uG} {N:Nat} {l:O Oper} {st:St}:∀ {os:O Oper} {xs:O EV} {env:Env},uT P N l st os xs env->xs.length=os.length
 | [],[],_,_=>rfl
 | o::os,x::xs,env,h=>by simp[uT.length h.2.2]
 | [],x::xs,_,h=>h.elim
 | o::os,[],_,h=>h.elim
theorem FH {env:Env} {d:J Tmp} {x:EV} {s:Tmp}:lookup s (env.put d x)=if d=some s then some x else lookup s env:=by
 cases d with
 | none=>simp[Env.put]
 | some d =>
  simp only[Env.put,lookup]
  cases hb:Nat.beq s d with
  | true=>have:=Nat.eq_of_beq_eq_true hb;subst this;simp
  | false =>
   have:¬ d=s:=by rintro rfl;rw[Nat.beq_refl] at hb;cases hb
   simp[this]
theorem fA {s:Tmp} {y:EV}:∀ {os:O Oper} {xs:O EV} {env:Env},xs.length=os.length->lookup s (dE env os xs)=some y ->
  (∃ (j:Nat) (o:Oper),os[j]?=some o/\xs[j]?=some y/\o.dst=some s)∨((∀ (j:Nat) (o:Oper),os[j]?=some o->o.dst≠some s)/\lookup s env=some y)
 | [],[],env,_,h=>.inr ⟨by simp,h⟩
 | o::os,x::xs,env,hl,h=>by
  rcases fA (os:=os) (xs:=xs) (env:=env.put o.dst x) (by simpa using hl) h with ⟨j,o',h1,h2,h3⟩|⟨h1,h2⟩
  ·exact .inl ⟨j+1,o',by simpa using h1,by simpa using h2,h3⟩
  ·rw[FH] at h2
   split at h2
   ·rename_i hd
    cases h2
    exact .inl ⟨0,o,rfl,rfl,hd⟩
   ·rename_i hd
    refine .inr ⟨λj o' ho=>?_,h2⟩
    cases j with
    | zero=>simp at ho;subst ho;exact hd
    | succ j=>exact h1 j o' (by simpa using ho)
 | [],_::_,_,hl,_=>by simp at hl
 | _::_,[],_,hl,_=>by simp at hl
theorem uT.get {P:uG} {N:Nat} {l:O Oper} {st:St}:∀ {os:O Oper} {xs:O EV} {env:Env} {i:Nat} {o:Oper},uT P N l st os xs env->os[i]?=some o ->
  ∃ x,xs[i]?=some x/\dZ N o.dst=true/\oh P l (ir l o (dE env (os.take i) (xs.take i))) st o x
 | o'::os,x::xs,env,0,o,h,ho=>by
  simp at ho;subst ho
  exact ⟨x,rfl,h.1,by simpa [dE] using h.2.1⟩
 | o'::os,x::xs,env,i+1,o,h,ho=>by
  obtain ⟨y,h1,h2,h3⟩:=uT.get (i:=i) h.2.2 (by simpa using ho)
  exact ⟨y,by simpa using h1,h2,by simpa [dE] using h3⟩
 | [],xs,env,i,o,h,ho=>by simp at ho
 | o'::os,[],_,_,_,h,_=>h.elim
section drawn
variable {P:uG} {f:Ctx} {N:Nat} {S:Start} {Q:EV->St->Prop} {k:List Item}
theorem sZ {l:List Oper} {p:Nat} (xV:∀ i,p<=i->i<l.length->∀ j,j<i->((cN l []).getD i 0).testBit j=true)
  (rD:∀ (i:Nat) o,l[i]?=some o->∀ e∈o.after,Region.binds .any e=true->e.on<i) :
  ∀ (fuel t m:Nat) (ar:uD Bool),p<=m->m<=l.length->l.length-m<=fuel->ar.size=l.length->(∀ i,i<l.length->ar.getD i true=decide (i<m)) ->
   Region.linearise.go .any l.toArray fuel t ar []=List.range' m (l.length-m)
 | fuel,t,m,ar,hp,hm,hf,hs,hl=>by
  have hD:∀ i,i<l.length->ar.getD i false=decide (i<m):=λi hi=>by
   rw[←hl i hi];simp[Array.getD_eq_getD_getElem?,hs,hi]
  have AB:qN l ar:=by
   intro i o ho J2 e he hb
   have hi:=(List.getElem?_eq_some_iff.1 ho).1
   have:=rD i o ho e he hb
   rw[hD i hi] at J2
   rw[hD _ (by omega)]
   simp at J2 ⊢
   omega
  have PG:Region.ready .any l.toArray ar=if m<l.length then [m] else []:=by
   have sa:∀ i,i∈Region.ready .any l.toArray ar↔i=m/\m<l.length:=by
    intro i
    rw[mem_ready]
    constructor
    ·rintro ⟨h0,o,ho,lJ⟩
     have kj:l[i]?=some o:=by simpa using ho
     have hi:=(List.getElem?_eq_some_iff.1 kj).1
     rw[hl i hi] at h0
     have Rs:m<=i:=by simpa using h0
     have oi:=qP AB kj (λe he hb=>lJ e he hb)
     by_cases he:i=m
     ·exact ⟨he,by omega⟩
     ·have h1:=oi m (xV i (by omega) hi m (by omega))
      rw[hD m (by omega)] at h1
      simp at h1
    ·rintro ⟨rfl,cd⟩
     refine ⟨by rw[hl i cd];simp,l[i],by simp[cd],λe he hb=>?_⟩
     have:=rD i l[i] (List.getElem?_eq_getElem cd) e he hb
     rw[hD _ (by omega)]
     simpa using this
   have OJ:(Region.ready .any l.toArray ar).Nodup:=(List.nodup_range).filter _
   split
   ·rename_i cd
    have h1:∀ i∈Region.ready .any l.toArray ar,i=m:=λi hi=>((sa i).1 hi).1
    have h2:m∈Region.ready .any l.toArray ar:=(sa m).2 ⟨rfl,cd⟩
    generalize Region.ready .any l.toArray ar=rs at *
    match rs with
    | []=>cases h2
    | [a]=>rw[h1 a (by simp)]
    | a::b::Yc =>
     have ha:=h1 a (by simp)
     have hb:=h1 b (by simp)
     simp[ha,hb] at OJ
   ·rename_i cd
    exact List.eq_nil_iff_forall_not_mem.2 λi hi=>cd ((sa i).1 hi).2
  cases fuel with
  | zero =>
   have:l.length-m=0:=by omega
   rw[this];rfl
  | succ fuel =>
   have PH:((List.range l.toArray.size).filter λi=>!ar.getD i true && ((l.toArray[i]?).map (·.after.all λe=>!Region.binds .any e || ar.getD e.on false)).getD false)=Region.ready .any l.toArray ar:=rfl
   simp only[Region.linearise.go,PH,PG]
   by_cases cd:m<l.length
   ·rw[if_pos cd]
    simp only[List.length_singleton,Nat.mod_one,List.getElem?_cons_zero]
    rw[linearise_go_acc,sZ xV rD fuel _ (m+1) _ (by omega) cd (by omega) (by simpa using hs) ?_]
    ·have:l.length-m=(l.length-(m+1))+1:=by omega
     rw[this,List.range'_succ]
     rfl
    ·intro i hi
     by_cases he:i=m
     ·subst he
      simp[Array.getD_eq_getD_getElem?,hs,hi]
     ·rw[getD_set_ne true (Ne.symm he),hl i hi]
      have:(i<m)=(i<m+1):=by apply propext;omega
      simp[this]
   ·rw[if_neg cd]
    have:l.length-m=0:=by omega
    rw[this];rfl
theorem FI {l:O Oper} {p:Nat} {env:Env} {st:St} {xs:O EV} (hp:p<=l.length)
  (Sd:∀ i j t,i<p->j<p->i≠j->cG l i=some t->cG l j≠some t)
  (OK:∀ (i:Nat) o,i<p->l[i]?=some o->∀ t∈Da l o,∀ j,j<p->j≠i->cG l j=some t->(j<i/\((cN l []).getD i 0).testBit j=true)∨(i<j/\((cN l []).getD j 0).testBit i=true))
  (xV:∀ i,p<=i->i<l.length->∀ j,j<i->((cN l []).getD i 0).testBit j=true)
  (rD:∀ (i:Nat) o,l[i]?=some o->∀ e∈o.after,Region.binds .any e=true->e.on<i)
  (JB:uT P N l st (l.take p) xs env) (vR:cn P f N S Q l (l.drop p) k (dE env (l.take p) xs) st) :
  ∀ (zQ fuel t:Nat) (ar:uD Bool) (g:br) (w:uC) (tmps:uD uB),ar.size=l.length->qN l ar->(∀ i,p<=i->i<l.length->ar.getD i true=false) ->
   (((List.range p).filter λi=>!ar.getD i true).length=zQ)->zQ+(l.length-p)<=fuel->Inv g S.base w st->th S g w st->tmps.size=N ->
   (∀ (s:Tmp),(∀ (j:Nat) x,j<p->ar.getD j false=true->cG l j=some s->xs[j]?=some x->∃ v,tmps[s]?=some v/\bm g w st x v) /\
    ((∀ j,j<p->ar.getD j false=true->cG l j≠some s)->∀ y,lookup s env=some y->∃ v,tmps[s]?=some v/\bm g w st y v)) ->
   dv P f (pO S Q) (.inRegion l.toArray (Region.linearise.go .any l.toArray fuel t ar [])::k) tmps w:=by
 have Ii:=JB.length
 have UG:xs.length=p:=by rw[Ii];simp;omega
 intro zQ
 induction zQ with
 | zero =>
  intro fuel t ar g w tmps hs AB J3 uU Db hinv hh hN hJ
  have lJ:∀ i,i<p->ar.getD i true=true:=by
   intro i hi
   have h0:=List.eq_nil_of_length_eq_zero uU
   have hn:i ∉ (List.range p).filter λi=>!ar.getD i true:=by rw[h0];simp
   rw[List.mem_filter,List.mem_range] at hn
   cases hb:ar.getD i true with
   | true=>rfl
   | false=>exact absurd ⟨hi,by simp[hb]⟩ hn
  have Se:=sZ xV rD fuel t p ar (Nat.le_refl _) hp (by omega) hs (λi hi=>by
   by_cases h:i<p
   ·rw[lJ i h];simp[h]
   ·rw[J3 i (by omega) hi];simp[h])
  rw[Se]
  have MQ:(l.drop p).length=l.length-p:=by simp
  rw[←MQ]
  have GY:∀ i,i<p->ar.getD i false=true:=λi hi=>by
   have:=lJ i hi
   have cd:i<ar.size:=by omega
   simpa [Array.getD_eq_getD_getElem?,cd] using this
  refine vR p (λj=>by rw[List.getElem?_drop]) g w tmps hinv hh (λs y hy=>?_) hN
  rcases fA Ii hy with ⟨j,o,h1,h2,h3⟩|⟨h1,h2⟩
  ·have hj:j<p:=by have:=(List.getElem?_eq_some_iff.1 h2).1;omega
   have ho:l[j]?=some o:=by rw[List.getElem?_take] at h1;rw[if_pos hj] at h1;exact h1
   exact (hJ s).1 j y hj (GY j hj) (by simp[cG,ho,h3]) h2
  ·refine (hJ s).2 (λj hj _ hd=>?_) y h2
   cases ho:l[j]? with
   | none=>simp[cG,ho] at hd
   | some o=>exact h1 j o (by rw[List.getElem?_take,if_pos hj];exact ho) (by simpa [cG,ho] using hd)
 | succ zQ ih =>
  intro fuel t ar g w tmps hs AB J3 uU Db hinv hh hN hJ
  obtain ⟨fuel,rfl⟩:∃ n,fuel=n+1:=⟨fuel-1,by omega⟩
  -- an operation of the beginning that has not come up
  have hex:∃ i,i<p/\ar.getD i true=false:=by
   have:(List.range p).filter (λi=>!ar.getD i true)≠[]:=λh=>by rw[h] at uU;simp at uU
   obtain ⟨i,hi⟩:=List.exists_mem_of_ne_nil _ this
   rw[List.mem_filter,List.mem_range] at hi
   exact ⟨i,hi.1,by simpa using hi.2⟩
  have Ik:∀ i,i<l.length->ar.getD i false=ar.getD i true:=λi hi=>by
   have cd:i<ar.size:=by omega
   simp[Array.getD_eq_getD_getElem?,cd]
  have PH:((List.range l.toArray.size).filter λi=>!ar.getD i true && ((l.toArray[i]?).map (·.after.all λe=>!Region.binds .any e || ar.getD e.on false)).getD false)=Region.ready .any l.toArray ar:=rfl
  -- the least such is ready
  have dq:Region.ready .any l.toArray ar≠[]:=by
   have J4:∀ n i,i<=n->i<p->ar.getD i true=false->∃ i,i<p/\ar.getD i true=false/\∀ j,j<i->ar.getD j true=true:=by
    intro n
    induction n with
    | zero=>intro i hi J5 h;exact ⟨i,J5,h,λj hj=>by omega⟩
    | succ n Sf =>
     intro i hi J5 h
     by_cases Jx:∃ j,j<i/\ar.getD j true=false
     ·obtain ⟨j,hj,AD⟩:=Jx
      exact Sf j (by omega) (by omega) AD
     ·refine ⟨i,J5,h,λj hj=>?_⟩
      cases hb:ar.getD j true with
      | true=>rfl
      | false=>exact absurd ⟨j,hj,hb⟩ Jx
   obtain ⟨i0,h0,h1⟩:=hex
   obtain ⟨i,BG,Dc,iX⟩:=J4 i0 i0 (Nat.le_refl _) h0 h1
   have lA:i<l.length:=by omega
   have:i∈Region.ready .any l.toArray ar:=by
    rw[mem_ready]
    refine ⟨Dc,l[i],by simp[lA],λe he hb=>?_⟩
    have cd:=rD i l[i] (List.getElem?_eq_getElem lA) e he hb
    rw[Ik _ (by omega)]
    exact iX _ cd
   intro xQ
   rw[xQ] at this
   cases this
  simp only[Region.linearise.go,PH]
  have hlen:0<(Region.ready .any l.toArray ar).length:=List.length_pos_iff.2 dq
  have tT:=Nat.mod_lt t hlen
  generalize hi:(Region.ready .any l.toArray ar)[t % (Region.ready .any l.toArray ar).length]=i
  have wJ:(Region.ready .any l.toArray ar)[t % (Region.ready .any l.toArray ar).length]?=some i:=by rw[List.getElem?_eq_getElem tT,hi]
  rw[wJ]
  simp only[]
  rw[linearise_go_acc]
  have Rs:i∈Region.ready .any l.toArray ar:=List.mem_of_getElem? wJ
  obtain ⟨Dc,o,ho,lJ⟩:=mem_ready.1 Rs
  have kj:l[i]?=some o:=by simpa using ho
  have lA:=(List.getElem?_eq_some_iff.1 kj).1
  have oi:=qP AB kj (λe he hb=>lJ e he hb)
  have BG:i<p:=by
   rcases Nat.lt_or_ge i p with h|h
   ·exact h
   ·obtain ⟨i0,h0,h1⟩:=hex
    have:=oi i0 (xV i h lA i0 (by omega))
    rw[Ik i0 (by omega),h1] at this
    cases this
  obtain ⟨x,hx,hd,qH⟩:=JB.get (i:=i) (o:=o) (by rw[List.getElem?_take,if_pos BG];exact kj)
  have Sg:=qO AB l [] (by simp) (by simp)
  -- what the operation looks at
  have he:cJ g w st (ir l o (dE env ((l.take p).take i) (xs.take i))) tmps:=by
   intro s y hy
   obtain ⟨GZ,CO⟩:=oe hy
   rcases fA (by simp[Ii]) CO with ⟨j,o',h1,h2,h3⟩|⟨h1,h2⟩
   ·have gX:j<i:=by have:=(List.getElem?_eq_some_iff.1 h2).1;simp at this;omega
    have uV:l[j]?=some o':=by
     rw[List.getElem?_take,if_pos gX,List.getElem?_take,if_pos (by omega)] at h1;exact h1
    have pd:cG l j=some s:=by simp[cG,uV,h3]
    rcases OK i o BG kj s GZ j (by omega) (by omega) pd with ⟨_,hb⟩|⟨cd,_⟩
    ·exact (hJ s).1 j y (by omega) (oi j hb) pd (by rw[List.getElem?_take,if_pos gX] at h2;exact h2)
    ·omega
   ·refine (hJ s).2 (λj hj s5 pd=>?_) y h2
    by_cases gX:j=i
    ·subst gX
     rw[Ik j lA,Dc] at s5
     cases s5
    ·rcases OK i o BG kj s GZ j hj gX pd with ⟨cd,_⟩|⟨cd,hb⟩
     ·cases uV:l[j]? with
      | none=>simp[cG,uV] at pd
      | some o'=>exact h1 j o' (by rw[List.getElem?_take,if_pos cd,List.getElem?_take,if_pos hj];exact uV) (by simpa [cG,uV] using pd)
     ·have AD:j<l.length:=by omega
      have Si:(cN l [])[j]?=some ((cN l []).getD j 0):=by
       cases hm:(cN l [])[j]? with
       | none=>rw[List.getD_eq_getElem?_getD,hm] at hb;simp at hb
       | some m=>rw[List.getD_eq_getElem?_getD,hm];rfl
      have:=Sg j _ Si s5 i hb
      rw[Ik i lA,Dc] at this
      cases this
  -- what remains behind it
  have Dd:((List.range p).filter λj=>!(ar.setIfInBounds i true).getD j true).length=zQ:=by
   have tU:∀ j,(ar.setIfInBounds i true).getD j true=(ar.getD j true || decide (j=i)):=by
    intro j
    by_cases gX:j=i
    ·subst gX;simp[Array.getD_eq_getD_getElem?,hs,lA]
    ·rw[getD_set_ne true (Ne.symm gX)];simp[gX]
   have J6:((List.range p).filter λj=>!(ar.setIfInBounds i true).getD j true)=((List.range p).filter λj=>!ar.getD j true).filter λj=>!decide (j=i):=by
    rw[List.filter_filter]
    refine List.filter_congr λj _=>?_
    rw[tU j]
    cases ar.getD j true<;>simp
   rw[J6]
   have OJ:((List.range p).filter λj=>!ar.getD j true).Nodup:=List.nodup_range.filter _
   have sa:i∈(List.range p).filter λj=>!ar.getD j true:=by rw[List.mem_filter,List.mem_range];exact ⟨BG,by simp[Dc]⟩
   have xW:∀ (L:O Nat),L.Nodup->i∈L->(L.filter λj=>!decide (j=i)).length+1=L.length:=by
    intro L
    induction L with
    | nil=>intro _ h;cases h
    | cons a L Sj =>
     intro hn hm
     rw[List.nodup_cons] at hn
     by_cases ha:a=i
     ·subst ha
      have:(L.filter λj=>!decide (j=a))=L:=by
       rw[List.filter_eq_self]
       intro b hb
       have:b≠a:=λe=>hn.1 (e▸hb)
       simp[this]
      rw[List.filter_cons]
      simp[this]
     ·have wF:i∈L:=by
       rcases List.mem_cons.1 hm with h|h
       ·exact absurd h.symm ha
       ·exact h
      rw[List.filter_cons]
      simp only[ha,decide_false,Bool.not_false,if_true,List.length_cons]
      rw[Sj hn.2 wF]
   have:=xW _ OJ sa
   omega
  have J7:qN l (ar.setIfInBounds i true):=by
   intro j oj uV s5 e rX hb
   by_cases gX:j=i
   ·subst gX
    rw[kj] at uV
    cases uV
    exact getD_set_true (lJ e rX hb)
   ·rw[getD_set_ne false (Ne.symm gX)] at s5
    exact getD_set_true (AB j oj uV s5 e rX hb)
  have J8:∀ j,p<=j->j<l.length->(ar.setIfInBounds i true).getD j true=false:=λj hj AD=>by rw[getD_set_ne true (by omega)];exact J3 j hj AD
  -- the step
  have next:∀ (b9:Nat->Nat) (w':uC) (v:uB),Good g w st x b9 w' v ->
    dv P f (pO S Q) (.inRegion l.toArray (Region.linearise.go .any l.toArray fuel (t / (Region.ready .any l.toArray ar).length) (ar.setIfInBounds i true) [])::k) (Act.put ⟨tmps,[]⟩ o.dst v).tmps w':=by
   rintro b9 w' v ⟨wG,hb,hl⟩
   obtain ⟨cF,lH⟩:=hinv.grow (g':={ g with bl:=b9 }) hb hl rfl rfl
   refine ih fuel _ _ _ w' _ (by simpa using hs) J7 J8 Dd (by omega) cF (hh.step lH) (by rw[fp];exact hN) λs=>⟨λj y hj s5 pd hy=>?_,λG0 y hy=>?_⟩
   ·by_cases gX:j=i
    ·subst gX
     have De:o.dst=some s:=by simpa [cG,kj] using pd
     rw[hx] at hy
     cases hy
     rw[De]
     have iW:s<tmps.size:=by
      rw[De] at hd
      have Sk:s+1<=N:=Nat.le_of_ble_eq_true hd
      rw[hN]
      exact Sk
     exact ⟨v,by simp[Act.put,iW],wG⟩
    ·rw[getD_set_ne false (Ne.symm gX)] at s5
     obtain ⟨u,h1,h2⟩:=(hJ s).1 j y hj s5 pd hy
     have mG:o.dst≠some s:=λe=>Sd j i s hj BG gX pd (by simp[cG,kj,e])
     refine ⟨u,?_,h2.mono lH.du⟩
     cases J9:o.dst with
     | none=>exact h1
     | some d =>
      have:d≠s:=λe=>mG (by rw[J9,e])
      simp[Act.put,Array.getElem?_setIfInBounds,this,h1]
   ·have mG:o.dst≠some s:=λe=>G0 i BG (by simp[Array.getD_eq_getD_getElem?,hs,lA]) (by simp[cG,kj,e])
    obtain ⟨u,h1,h2⟩:=(hJ s).2 (λj hj s5=>G0 j hj (by
     by_cases gX:j=i
     ·subst gX;simp[Array.getD_eq_getD_getElem?,hs,lA]
     ·rw[getD_set_ne false (Ne.symm gX)];exact s5)) y hy
    refine ⟨u,?_,h2.mono lH.du⟩
    cases J9:o.dst with
    | none=>exact h1
    | some d =>
     have:d≠s:=λe=>mG (by rw[J9,e])
     simp[Act.put,Array.getElem?_setIfInBounds,this,h1]
  have zR:l.toArray[i]?=some o:=ho
  show dv P f (pO S Q) (.inRegion l.toArray (i::_)::k) tmps w
  rcases qH with ⟨hg,qH⟩|⟨j,want,tt,c,b,y,env',hg,hj,Sl,Sn,rfl,hE,qH⟩
  ·have hw:Region.wanted o (yielded l.toArray tmps)=true:=by simp[Region.wanted,hg]
   rcases qH g S.base w tmps hinv he with ⟨v,b9,w',hr,sb⟩|⟨f',args,hr,hc⟩
   ·exact dv.value zR hw hr (next b9 w' v sb)
   ·exact dv.call zR hw hr (hc.mono λe w' ⟨v,b9,h1,h2⟩=>⟨v,h1,next b9 w' v h2⟩)
  ·obtain ⟨u,hu,So⟩:=he tt c Sl
   have hw:Region.wanted o (yielded l.toArray tmps)=b:=by
    rw[←pQ Sn So]
    have Fx:((l.toArray)[j]?).bind (·.dst)=some tt:=by simpa using hj
    simp only[Region.wanted,hg,yielded,Fx,Option.bind_some,hu]
    cases u<;>rfl
   cases b with
   | false=>exact dv.rY zR hw (next g.bl w undef ⟨.gd _ _ _ (λ_=>rfl) (λh=>by cases h),.refl _ _,λ_ _=>rfl⟩)
   | true =>
    have wrap:∀ b9 w' v,Good g w st y b9 w' v->Good g w st (.gd true y) b9 w' v:=λb9 w' v ⟨a,b,c⟩=>⟨.gd _ _ _ (λh=>by cases h) (λ_=>a),b,c⟩
    rcases qH rfl g S.base w tmps hinv (he.gd hE rfl) with ⟨v,b9,w',hr,sb⟩|⟨f',args,hr,hc⟩
    ·exact dv.value zR hw hr (next b9 w' v (wrap _ _ _ sb))
    ·exact dv.call zR hw hr (hc.mono λe w' ⟨v,b9,h1,h2⟩=>⟨v,h1,next b9 w' v (wrap _ _ _ h2)⟩)
def rQ (P:uG) (f:Ctx) (N:Nat) (S:Start) (Q:EV->St->Prop) (l:List Oper) (p:Nat) (os:List Oper) (k:List Item) (env:Env) (st:St):Prop :=
 ∃ xs,uT P N l st os xs env/\cn P f N S Q l (l.drop p) k (dE env os xs) st
variable {l:List Oper} {p:Nat} {os:List Oper} {env:Env} {st:St}
theorem rQ.nil (h:cn P f N S Q l (l.drop p) k env st):rQ P f N S Q l p [] k env st:=⟨[],trivial,h⟩
theorem rQ.g {d:J Tmp} {op:Op} {ty:uE} {pos:String} {after:uD Edge} {x:EV} (h:ti P (ir l ⟨d,op,ty,pos,after,none⟩ env) st ⟨d,op,ty,pos,after,none⟩ x) (hd:dZ N d=true)
  (hk:rQ P f N S Q l p os k (env.put d x) st):rQ P f N S Q l p (⟨d,op,ty,pos,after,none⟩::os) k env st:=by
 obtain ⟨xs,h1,h2⟩:=hk
 exact ⟨x::xs,⟨hd,.inl ⟨rfl,h⟩,h1⟩,h2⟩
theorem rQ.q {d:J Tmp} {op:Op} {ty:uE} {pos:String} {after:uD Edge} {x:EV} (h:az P (ir l ⟨d,op,ty,pos,after,none⟩ env) st ⟨d,op,ty,pos,after,none⟩ x) (hd:dZ N d=true)
  (hk:rQ P f N S Q l p os k (env.put d x) st):rQ P f N S Q l p (⟨d,op,ty,pos,after,none⟩::os) k env st:=.g h.g hd hk
theorem ba.drawn {id:Nat} (p:Nat) (hm:P.follows .mixedOrders=true) (hB:og l p=true) (h:rQ P f N S Q l p (l.take p) k env st):ba P f N S Q (.code (.region id l.toArray true)::k) env st:=by
 obtain ⟨xs,JB,vR⟩:=h
 simp only[og,Bool.and_eq_true] at hB
 obtain ⟨⟨⟨⟨Rt,Ru⟩,Rv⟩,Rw⟩,PI⟩:=hB
 have hp:p<=l.length:=by simpa using PI
 intro g w tmps hinv hh he hn
 refine dv.tP λt=>?_
 have Ka:Region.schedule (P.follows .mixedOrders) l.toArray t=Region.linearise .any l.toArray t:=by simp[Region.schedule,hm]
 rw[Ka]
 have hb:Below w.heap.size w { w with drawn:=w.drawn+1 }:=(Below.refl _ w).drew
 obtain ⟨cF,lH⟩:=hinv.grow (g':=g) hb (λ_ _=>rfl) rfl rfl
 unfold Region.linearise
 refine FI (p:=p) (xs:=xs) hp ?_ ?_ ?_ ?_ JB vR p _ t _ g _ tmps (by simp) ?_ ?_ ?_ ?_ cF (hh.step lH) hn λs=>⟨λj x hj s5=>?_,λ_ y hy=>?_⟩
 ·intro i j t hi hj zZ Sp pd
  have:=bH (bH Ru hi) hj
  simp[zZ,Sp,pd] at this
 ·intro i o hi ho t ht j hj gX pd
  have h1:=bH Rt hi
  rw[ho] at h1
  simp only[List.all_eq_true] at h1
  have h2:=bH (h1 t ht) hj
  simp only[pd,bne_self_eq_false,Bool.or_false,Bool.or_eq_true,Bool.and_eq_true,decide_eq_true_eq,beq_iff_eq] at h2
  rcases h2 with (h2|h2)|h2
  ·exact absurd h2.symm gX
  ·exact .inl h2
  ·exact .inr h2
 ·intro i hi lA j hj
  have h1:=bH Rv lA
  simp only[Bool.or_eq_true,decide_eq_true_eq] at h1
  rcases h1 with h1|h1
  ·omega
  ·exact bH h1 hj
 ·intro i o ho e rX gQ
  have lA:=(List.getElem?_eq_some_iff.1 ho).1
  have h1:=bH Rw lA
  rw[ho] at h1
  simp only[List.all_eq_true] at h1
  have:=h1 e (by simpa using rX)
  simpa [gQ] using this
 ·intro i o ho J2
  simp[Array.getD_eq_getD_getElem?,Array.getElem?_replicate] at J2
  split at J2<;>simp_all
 ·intro i hi lA
  simp[Array.getD_eq_getD_getElem?,Array.getElem?_replicate,lA]
 ·have:((List.range p).filter λi=>!(Array.replicate l.toArray.size false).getD i true)=List.range p:=by
   rw[List.filter_eq_self]
   intro i hi
   have hi':=List.mem_range.1 hi
   have:i<l.length:=by omega
   simp[Array.getD_eq_getD_getElem?,Array.getElem?_replicate,this]
  rw[this];simp
 ·simp;omega
 ·simp[Array.getD_eq_getD_getElem?,Array.getElem?_replicate] at s5
  split at s5<;>simp_all
 ·exact (he.mono lH.du) s y hy
end drawn
theorem Il {n:Int} (h1:-9223372036854775808<=n) (h2:n<=9223372036854775807):IntKind.i64.wrap n=n:=by
 rw[IntKind.wrap_i64];omega
def na (n m:Nat):EV->Bool
 | .d _=>true
 | .ref o _=>Nat.blt o n
 | .wW o _ _ _=>Nat.blt o n
 | .bX _ _ t=>Nat.blt t m
 | .mp o=>Nat.blt o n
 | .vc t _=>Nat.blt t m
 | .vp t _ _ _=>Nat.blt t m
 | .vw t _ _ _=>Nat.blt t m
 | .xj _ cs=>xX n m cs
 | .agg cs=>xX n m cs
 | .dp cs=>xX n m cs
 | .gd _ x=>na n m x
where
 xX (n m:Nat):List EV->Bool
 | []=>true
 | x::l=>na n m x && xX n m l
theorem gj {a b:Nat} (h:Nat.blt a b=true):a<b:=Nat.le_of_ble_eq_true h
theorem lK {n m:Nat}:∀ {l:O EV},na.xX n m l=true->∀ (i:Nat) c,l[i]?=some c->na n m c=true
 | [],_,i,c,h=>by simp at h
 | x::l,ho,0,c,h=>by
  simp only[na.xX,Bool.and_eq_true] at ho
  simp at h;subst h;exact ho.1
 | x::l,ho,i+1,c,h=>by
  simp only[na.xX,Bool.and_eq_true] at ho
  exact lK ho.2 i c (by simpa using h)
theorem xY {g:br} {w:uC} {st:St} {n m:Nat} {x:EV} {v:uB} (hn:n<=st.aR.length) (hm:m<=st.al.length) (ho:na n m x=true) (h:bm g w st x v):bm g w ⟨st.aR.take n,st.al.take m⟩ x v:=by
 have nO:∀ {t:Nat} {x:fZ},(st.al.take m)[t]?=some x->st.al[t]?=some x:=fun {t x} hx=>by
  rw[List.getElem?_take] at hx;split at hx;exact hx;cases hx
 induction h with
 | d x v h=>exact .d _ _ h
 | ref o off h=>exact .ref _ _ (by have:=gj ho;simp;omega)
 | wW o off l c h=>exact .wW _ _ _ _ (by have:=gj ho;simp;omega)
 | bX sz rows t v e k hd ht hk hv =>
  have:=gj ho
  exact .bX sz rows t v e k hd (by simp[List.getElem?_take,this,ht]) hk hv
 | mp o h=>exact .mp _ (by have:=gj ho;simp;omega)
 | xj f cs vs hs h ih =>
  simp only[na] at ho
  exact .xj f cs vs hs λi c u hc hu=>ih i c u hc hu (lK ho i c hc)
 | agg cs vs hs h1 h ih =>
  simp only[na] at ho
  exact .agg cs vs hs h1 λi c u hc hu=>ih i c u hc hu (lK ho i c hc)
 | dp cs vs hs h ih =>
  simp only[na] at ho
  exact .dp cs vs hs λi c u hc hu=>ih i c u hc hu (lK ho i c hc)
 | gd b x v h0 h ih =>
  simp only[na] at ho
  exact .gd b x v h0 λhb=>ih hb ho
 | vc t k v ht hf h=>exact .vc t k v (by have:=gj ho;simp;omega) hf λx rows hx=>h x rows (nO hx)
 | vp t k i off v ht hf h=>exact .vp t k i off v (by have:=gj ho;simp;omega) hf λx rows hx=>h x rows (nO hx)
 | vw t k lo n v ht hf h=>exact .vw t k lo n v (by have:=gj ho;simp;omega) hf λx rows hx=>h x rows (nO hx)
def kq (n m:Nat):fm->Bool
 | .row _ cs=>cs.all (na n m)
 | .map es=>es.all λp=>na n m p.2
 | .raw _=>true
 | .gone=>true
def Df (n m:Nat):Env->Bool
 | []=>true
 | (_,x)::e=>na n m x && Df n m e
theorem AE {n m i:Nat} {y:EV}:∀ {env:Env},Df n m env=true->lookup i env=some y->na n m y=true
 | [],_,h=>by simp[lookup] at h
 | (j,x)::e,ho,h=>by
  simp only[Df,Bool.and_eq_true] at ho
  unfold lookup at h
  cases hb:Nat.beq i j with
  | true=>rw[hb] at h;cases h;exact ho.1
  | false=>rw[hb] at h;exact AE ho.2 h
section drop
variable {P:uG} {f:Ctx} {N:Nat} {S:Start} {Q:EV->St->Prop} {k:List Item} {todo:List Item} {env env':Env} {st st':St}
theorem Inv.drop {g:br} {base n m:Nat} {w:uC} (h:Inv g base w st) (hn:n<=st.aR.length) (hm:m<=st.al.length) (ho:(st.aR.take n).all (kq n m)=true):Inv g base w ⟨st.aR.take n,st.al.take m⟩:=by
 have zO:∀ o x,(st.aR.take n)[o]?=some x->st.aR[o]?=some x:=λo x hx=>by
  rw[List.getElem?_take] at hx;split at hx;exact hx;cases hx
 have dO:∀ t x,(st.al.take m)[t]?=some x->st.al[t]?=some x:=λt x hx=>by
  rw[List.getElem?_take] at hx;split at hx;exact hx;cases hx
 have vJ:∀ o x,(st.aR.take n)[o]?=some x->kq n m x=true:=λo x hx=>List.all_eq_true.1 ho x (List.mem_of_getElem? hx)
 have jx:∀ o,St.live ⟨st.aR.take n,st.al.take m⟩ o->st.live o:=λo ⟨x,hx,dq⟩=>⟨x,zO o x hx,dq⟩
 refine ⟨h.base,λo ty cs hx=>?_,λo es hx=>?_,λo x hx=>h.raw o x (zO o _ hx),λo o' dq h1 h2=>h.ne o o' dq (jx _ h1) (jx _ h2),λt e sz k hx=>h.tail t e sz k (dO t _ hx),λt t' x x' b dq h1 h2=>h.km t t' x x' b dq (dO t _ h1) (dO t' _ h2),λt x o h1 h2=>h.eD t x o (dO t _ h1) (jx _ h2),h.xJ,λt e sz k rows hx=>h.own t e sz k rows (dO t _ hx)⟩
 ·obtain ⟨h1,h2,vs,h3,h4,h5⟩:=h.row o ty cs (zO o _ hx)
  have hc:=vJ o _ hx
  simp only[kq,List.all_eq_true] at hc
  exact ⟨h1,h2,vs,h3,h4,λi c u wX hu=>⟨xY hn hm (hc c (List.mem_of_getElem? wX)) (h5 i c u wX hu).1,(h5 i c u wX hu).2⟩⟩
 ·obtain ⟨h1,ms,c,h3,h4,h5,h6⟩:=h.map o es (zO o _ hx)
  have hc:=vJ o _ hx
  simp only[kq,List.all_eq_true] at hc
  exact ⟨h1,ms,c,h3,h4,λi k x me a b=>⟨(h5 i k x me a b).1,xY hn hm (hc _ (List.mem_of_getElem? a)) (h5 i k x me a b).2⟩,h6⟩
theorem th.drop {S:Start} {g:br} {w:uC} {n m:Nat} (hh:th S g w st) (W3:S.st.aR.length<=n) (W4:S.st.al.length<=m) (hn:n<=st.aR.length) (hm:m<=st.al.length):th S g w ⟨st.aR.take n,st.al.take m⟩:=by
 refine ⟨⟨hh.du.bI,hh.du.ob,by simp;omega,λt e sz k hk=>?_,by simp;omega,λt x' aY cd hx ho=>?_⟩,hh.below,hh.bl,hh.frame,λb hb hw=>hh.fresh b hb ?_⟩
 ·obtain ⟨k',h1,h2⟩:=hh.du.al t e sz k hk
  have cd:=(List.getElem?_eq_some_iff.1 hk).1
  exact ⟨k',by simp[List.getElem?_take,show t<m by omega,h1],h2⟩
 ·refine hh.du.own t x' aY cd ?_ ho
  rw[List.getElem?_take] at hx;split at hx;exact hx;cases hx
 ·rcases hw with ⟨o,⟨x,hx,dq⟩,h2⟩|⟨t,x,hx,h2⟩
  ·refine .inl ⟨o,⟨x,?_,dq⟩,h2⟩
   rw[List.getElem?_take] at hx;split at hx;exact hx;cases hx
  ·refine .inr ⟨t,x,?_,h2⟩
   rw[List.getElem?_take] at hx;split at hx;exact hx;cases hx
theorem ba.to (n m:Nat) (hE:cL env env') (ho:st.aR.take n=st'.aR) (ht:st.al.take m=st'.al) (hn:Nat.ble n st.aR.length=true) (hm:Nat.ble m st.al.length=true) (vJ:(Df n m env' && st'.aR.all (kq n m))=true)
  (W3:S.st.aR.length<=n) (W4:S.st.al.length<=m) (h:ba P f N S Q todo env' st'):ba P f N S Q todo env st:=by
 have Sq:=Nat.le_of_ble_eq_true hn
 have wF:=Nat.le_of_ble_eq_true hm
 simp only[Bool.and_eq_true] at vJ
 have lH:st'=⟨st.aR.take n,st.al.take m⟩:=by cases st';simp at ho ht;rw[ho,ht]
 subst lH
 intro g w tmps hinv hh he hN
 refine h g w tmps (hinv.drop Sq wF vJ.2) (hh.drop (by omega) (by omega) Sq wF) ?_ hN
 ·intro i y hy
  obtain ⟨v,h1,h2⟩:=(he.sub hE) i y hy
  exact ⟨v,h1,xY Sq wF (AE vJ.1 hy) h2⟩
theorem cL.nil:cL env []:=trivial
theorem cL.cons {i:Nat} {x y:EV} {t:Env} (h:lookup i env=some x) (hle:dB x y) (ht:cL env t):cL env ((i,y)::t):=⟨⟨x,h,hle⟩,ht⟩
theorem cL.k2 {env t:Env} {i0 i1:Nat} {x0 x1:EV} (h0:lookup i0 env=some x0) (h1:lookup i1 env=some x1) (u:cL env t):cL env ((i0,x0):: (i1,x1):: t):=.cons h0 (.av _) (.cons h1 (.av _) u)
theorem cL.k3 {env t:Env} {i0 i1 i2:Nat} {x0 x1 x2:EV} (h0:lookup i0 env=some x0) (h1:lookup i1 env=some x1) (h2:lookup i2 env=some x2) (u:cL env t):cL env ((i0,x0):: (i1,x1):: (i2,x2):: t):=.cons h0 (.av _) (.cons h1 (.av _) (.cons h2 (.av _) u))
theorem cL.k4 {env t:Env} {i0 i1 i2 i3:Nat} {x0 x1 x2 x3:EV} (h0:lookup i0 env=some x0) (h1:lookup i1 env=some x1) (h2:lookup i2 env=some x2) (h3:lookup i3 env=some x3) (u:cL env t):cL env ((i0,x0):: (i1,x1):: (i2,x2):: (i3,x3):: t):=.cons h0 (.av _) (.cons h1 (.av _) (.cons h2 (.av _) (.cons h3 (.av _) u)))
theorem cL.k5 {env t:Env} {i0 i1 i2 i3 i4:Nat} {x0 x1 x2 x3 x4:EV} (h0:lookup i0 env=some x0) (h1:lookup i1 env=some x1) (h2:lookup i2 env=some x2) (h3:lookup i3 env=some x3) (h4:lookup i4 env=some x4) (u:cL env t):cL env ((i0,x0):: (i1,x1):: (i2,x2):: (i3,x3):: (i4,x4):: t):=.cons h0 (.av _) (.cons h1 (.av _) (.cons h2 (.av _) (.cons h3 (.av _) (.cons h4 (.av _) u))))
theorem cL.k6 {env t:Env} {i0 i1 i2 i3 i4 i5:Nat} {x0 x1 x2 x3 x4 x5:EV} (h0:lookup i0 env=some x0) (h1:lookup i1 env=some x1) (h2:lookup i2 env=some x2) (h3:lookup i3 env=some x3) (h4:lookup i4 env=some x4) (h5:lookup i5 env=some x5) (u:cL env t):cL env ((i0,x0):: (i1,x1):: (i2,x2):: (i3,x3):: (i4,x4):: (i5,x5):: t):=.cons h0 (.av _) (.cons h1 (.av _) (.cons h2 (.av _) (.cons h3 (.av _) (.cons h4 (.av _) (.cons h5 (.av _) u)))))
theorem cL.k7 {env t:Env} {i0 i1 i2 i3 i4 i5 i6:Nat} {x0 x1 x2 x3 x4 x5 x6:EV} (h0:lookup i0 env=some x0) (h1:lookup i1 env=some x1) (h2:lookup i2 env=some x2) (h3:lookup i3 env=some x3) (h4:lookup i4 env=some x4) (h5:lookup i5 env=some x5) (h6:lookup i6 env=some x6) (u:cL env t):cL env ((i0,x0):: (i1,x1):: (i2,x2):: (i3,x3):: (i4,x4):: (i5,x5):: (i6,x6):: t):=.cons h0 (.av _) (.cons h1 (.av _) (.cons h2 (.av _) (.cons h3 (.av _) (.cons h4 (.av _) (.cons h5 (.av _) (.cons h6 (.av _) u))))))
theorem cL.k8 {env t:Env} {i0 i1 i2 i3 i4 i5 i6 i7:Nat} {x0 x1 x2 x3 x4 x5 x6 x7:EV} (h0:lookup i0 env=some x0) (h1:lookup i1 env=some x1) (h2:lookup i2 env=some x2) (h3:lookup i3 env=some x3) (h4:lookup i4 env=some x4) (h5:lookup i5 env=some x5) (h6:lookup i6 env=some x6) (h7:lookup i7 env=some x7) (u:cL env t):cL env ((i0,x0):: (i1,x1):: (i2,x2):: (i3,x3):: (i4,x4):: (i5,x5):: (i6,x6):: (i7,x7):: t):=.cons h0 (.av _) (.cons h1 (.av _) (.cons h2 (.av _) (.cons h3 (.av _) (.cons h4 (.av _) (.cons h5 (.av _) (.cons h6 (.av _) (.cons h7 (.av _) u)))))))
end drop
section enter
variable {P:uG} {f:FuncId} {fn:Func} {c:Code} {N:Nat}
theorem aB.aS {args:O D} {q:D->Prop} (hf:P.funcs[f]?=some fn) (hb:fn.body=some c) (hN:fn.ntmps=N) (hl:Nat.ble args.length N=true)
  (h:∀ S:Start,S.st=⟨[],[]⟩->ba P (.of f) N S (QD q) [.code c] (vM 0 (args.map EV.d)) ⟨[],[]⟩):aB P f args q :=
 .of (.enter hf hb hN (by simpa using hl) λS hS=>h S hS)
end enter
theorem PJ {α β:Type} {f:α->β} {l:O α} {n:Nat} (d:α) (h:n<l.length):(l.map f)[n]?=some (f (l.getD n d)):=by
 rw[List.getElem?_map,List.getD_eq_getElem?_getD,List.getElem?_eq_getElem h];rfl
section q
variable {P:uG} {base:Nat} {env:Env} {st:St} {d:Option Tmp} {ty:uE} {pos:String} {after:uD Edge} {gd:Option (Nat×Bool)} {t t2 e:uE} {x y z:uH}
section int
variable {a b:Int} (hx:bI env x=some (.d (.ex (.int .i64 a)))) (hy:bI env y=some (.d (.ex (.int .i64 b))))
include hx hy
theorem PK (h1:-9223372036854775808<=a+b) (h2:a+b<=9223372036854775807):az P env st ⟨d,.binOp .add t x y t2,ty,pos,after,gd⟩ (.d (.ex (.int .i64 (a+b)))):=xL hx hy (Il h1 h2)
theorem PM (h1:-9223372036854775808<=a-b) (h2:a-b<=9223372036854775807):az P env st ⟨d,.binOp .sub t x y t2,ty,pos,after,gd⟩ (.d (.ex (.int .i64 (a-b)))):=OF hx hy (Il h1 h2)
theorem PN (h1:-9223372036854775808<=a*b) (h2:a*b<=9223372036854775807):az P env st ⟨d,.binOp .mul t x y t2,ty,pos,after,gd⟩ (.d (.ex (.int .i64 (a*b)))):=GK hx hy (Il h1 h2)
end int
theorem PO {sz n:Nat} {rows:O (O D)} {ev:EV} {k:IntKind} {i:Int} {row:O D} {inf:TypeInfo} (ht:P.underlying t=some (.slice e)) (hi:P.info? e=some inf) (iW:inf.size=sz)
  (hx:bI env x=some ev) (hs:oa ev=some (sz,rows)) (hy:bI env y=some (.d (.ex (.int k i)))) (hn:i=n) (hr:rows[n]?=some row) :
  az P env st ⟨d,.indexAddr t x y,ty,pos,after,gd⟩ (.d (.ro row)):=λg base w tmps hinv he=>by
 subst hn
 obtain ⟨b,off,c,hv,cd,W5⟩:=RS (ko hs (aA he hx)) hr
 refine ⟨_,.d _ _ W5,λw' _=>?_⟩
 have:=Az (d:=d) (ty:=ty) (pos:=pos) (after:=after) (gd:=gd) ht hi hv (aA he hy).aZ (by omega) (by omega) w'
 rw[Int.toNat_natCast,iW] at this
 exact this
theorem Kb {a:O uA} {k:IntKind} {i:Int} {n:Nat} (ht:P.underlying t=some .string) (hx:bI env x=some (.d (.ex (.string ⟨a.toArray⟩)))) (hy:bI env y=some (.d (.ex (.int k i)))) (hn:i=n) (cd:n<a.length) :
  az P env st ⟨d,.index t x y,ty,pos,after,gd⟩ (.d (.ex (.int .u8 ((a.getD n 0).toNat:Int)))):=by
 subst hn
 exact JK ht hx hy (by omega) (by rw[Int.toNat_natCast,List.getD_eq_getElem?_getD,List.getElem?_eq_getElem cd];rfl)
theorem PQ {sz:Nat} {rows:O (O D)} {ev:EV} (ht:P.underlying t=some (.slice e)) (hx:bI env x=some ev) (hs:oa ev=some (sz,rows)) :
  az P env st ⟨d,.call ⟨.builtin .len,#[x],#[t]⟩,ty,pos,after,gd⟩ (.d (.ex (.int .i64 rows.length))):=j0 λg w tmps w' he=>by
 obtain ⟨A,c,hv⟩:=Bv (ko hs (aA he hx))
 exact MF ht hv w'
theorem vS {cs:O D} {n:Nat} (h1:(P.underlying t).map jm=some false) (hs:(P.info? t).map (·.size)=some n) (hx:bI env x=some (.d (.ro cs))) (hn:Nat.beq cs.length n=true) :
  az P env st ⟨d,.load t x,ty,pos,after,gd⟩ (.d (.agg cs)):=by
 have Sq:=Nat.eq_of_beq_eq_true hn
 have:=GP (d:=d) (ty:=ty) (pos:=pos) (after:=after) (gd:=gd) (st:=st) h1 hs (Nat.le_of_eq Sq.symm) hx
 rwa [List.take_of_length_le (by omega)] at this
theorem PR {a:Int} (hx:bI env x=some (.d (.ex (.int .i64 a)))) (h1:-9223372036854775807<=a) (h2:a<=9223372036854775807):az P env st ⟨d,.unOp .neg t x,ty,pos,after,gd⟩ (.d (.ex (.int .i64 (-a)))) :=
 OG hx (by rw[Il (by omega) (by omega)];omega)
def cQ (P:uG) (t:uE):Option (List (Nat×Nat)):=match P.underlying t with
 | some (.struct fs)=>if fs.toList.all (λf=>(P.info? f.type).isSome) then some (fs.toList.map λf=>(f.offset,C8 P f.type)) else none
 | _=>none
theorem aK {ps:O (Nat×Nat)} {inf:TypeInfo} {z:uB} {zs r:O D} {l:O (Nat×uH)} (hp:cQ P t=some ps) (hi:P.info? t=some inf) (hz:inf.zero=some z) (m9:cellsD (.d (cv z))=some zs)
  (hl:zY (λi=>ps[i]?) env zs l=some r):az P env st ⟨d,.build t l.toArray,ty,pos,after,gd⟩ (.d (.agg r)):=by
 unfold cQ at hp
 split at hp
 ·rename_i fs hu
  split at hp
  ·rename_i lJ
   cases hp
   refine MO hu hi hz m9 lJ ?_
   rw[←hl]
   congr 1
   funext i
   simp[placeOf]
  ·cases hp
 ·cases hp
theorem aC {sz:Nat} {inf:TypeInfo} {z:uB} {zs r:O D} {l:O (Nat×uH)} (ht:P.underlying t=some (.slice e)) (hi:P.info? e=some inf) (iW:inf.size=sz) (hz:inf.zero=some z) (m9:Nat.beq z.cells.size sz=true)
  (FG:Nat.ble sz 16777216=true) (Mx:Nat.blt 0 sz=true) (Mw:cellsD (.d (cv z))=some zs) (hl:zY (λi=>some (i*sz,sz)) env zs l=some r) :
  ti P env st ⟨d,.buildSlice t 1 l.toArray,ty,pos,after,gd⟩ (.d (.sl sz [r])):=by
 have MR:=Nat.eq_of_beq_eq_true m9
 have OI:=Nat.le_of_ble_eq_true FG
 intro g base w tmps hinv he
 have wY:=j4 (g:=g) (w:=w) (st:=st) Mw (.d _ _ (qG _ _ z))
 have Rr:zs.length=sz:=by rw[←wY.1,MR]
 have UH:r.length=sz:=by
  obtain ⟨us,_,_,h3⟩:=r8 he l zs z.cells r hl wY
  rw[h3,Rr]
 have By:(List.replicate 1 zs).flatten=zs:=by simp
 exact uS (len:=1) ht hi iW hz MR (by omega) (by omega) (by rw[By,Rr];omega) Mw (by rw[By,hl];simp) (by simp[UH]) rfl (gj Mx) g base w tmps hinv he
end q
theorem Inv.Im {g:br} {base:Nat} {w:uC} {st:St} (h:Inv g base w st) (e sz:Nat) :
  ∃ g',g'.tk st.al.length=.slice (some ⟨w.heap.size,0,none⟩) 0 0/\Inv g' base (w.alloc (.cells #[] e)) (st.tok ⟨e,sz,0,none⟩)/\Step base g w st g' (w.alloc (.cells #[] e)) (st.tok ⟨e,sz,0,none⟩):=by
 obtain ⟨g',h1,_,_,h2,h3⟩:=h.BC ⟨e,sz,0,none⟩ (v:=.slice (some ⟨w.heap.size,0,none⟩) 0 0) (xs:=[]) ⟨by simp,.inr ⟨w.heap.size,0,#[],rfl,h.base,heap_alloc_new w _,Nat.le_refl _,by simp[maxLen],by simp,by simp⟩⟩
  (.inr ⟨rfl,(Below.refl _ w).alloc (Nat.le_refl _) _⟩) (λrows hh=>by cases hh)
 exact ⟨g',h1,h2,h3⟩
section rules
variable {P:uG} {base:Nat} {env:Env} {st:St} {d:Option Tmp} {ty:uE} {pos:String} {after:uD Edge} {gd:Option (Nat×Bool)} {t t2 e:uE} {x y z:uH}
theorem lL {inf:TypeInfo} {sz:Nat} (ht:P.underlying t=some (.slice e)) (hi:P.info? e=some inf) (iW:inf.size=sz) :
  tQ P base env st ⟨d,.buildSlice t 0 #[],ty,pos,after,gd⟩ (.bX sz [] st.al.length) (st.tok ⟨e,sz,0,none⟩):=by
 intro g w tmps hinv he
 obtain ⟨g',h1,h2,h3⟩:=hinv.Im e sz
 refine ⟨_,g',_,?_,.bX sz [] _ (.slice (some ⟨w.heap.size,0,none⟩) 0 0) e 0 (.sl sz [] _ 0 0 (Nat.le_refl _) (by simp) (by simp) (by simp)) (by simp[St.tok]) (Nat.le_refl _) (λ_=>.inl h1.symm),h2,h3⟩
 simp[execOp,Instr.buildSlice,run_underlying ht,o9 hi,newRow,Instr.fill]
 rw[show Array.map (λ_=>(default:uB)) (Array.range 0)=#[] from by simp[Array.range_zero']]
end rules
def nth {α:Type} [Inhabited α] (l:List α) (k:Nat):α:=l.getD k default
theorem eE {α:Type} [Inhabited α] {l:O α} {k:Nat} (h:k<l.length):nth l k=l[k]:=by
 unfold nth
 rw[List.getD_eq_getElem?_getD,List.getElem?_eq_getElem h];rfl
theorem xZ {α β:Type} [Inhabited α] {f:α->β} {l:O α} {n:Nat} (h:n<l.length):(l.map f)[n]?=some (f (nth l n)):=PJ default h
theorem ya {α:Type} [Inhabited α] {l:O α} {k:Nat} (h:k<l.length):l.take (k+1)=l.take k++[nth l k]:=by
 rw[eE h,List.take_succ_eq_append_getElem h]
theorem cR {α:Type} [Inhabited α] {l:O α} {k:Nat} (h:k<l.length):l.drop k=nth l k::l.drop (k+1):=by
 rw[eE h];exact List.drop_eq_getElem_cons h
abbrev cI (n:Int):D:=.ex (.int .i64 n)
abbrev cS (l:List uA):D:=.ex (.string ⟨l.toArray⟩)
abbrev cB (b:Bool):D:=.ex (.bool b)
def rI (n:Int):List D:=[.ex (.int .i64 n)]
def rS (l:List uA):List D:=[.ex (.string ⟨l.toArray⟩)]
def cq (b:uA):List D:=[.ex (.int .u8 (b.toNat:Int))]
abbrev ag {α:Type} (sz:Nat) (row:α->List D) (l:List α):D:=.sl sz (l.map row)
structure xl (P:uG) (key:uE) (κ:Type) [BEq κ] [LawfulBEq κ] where
 ke:κ->uB
 kd:TypeDesc
 Wc:P.underlying key=some kd
 same:∀ a b,Instr.sameNow kd (ke a) (ke b)=some (a==b)
 bits:∀ a,Instr.sameBits 10000 (ke a) (ke a)=true
 check:∀ a b w,(Instr.checkKey b 10000 key (ke a)).run P w=.ok () w
def MS {P:uG} {key:uE} (h:P.underlying key=some (.int .i64)):xl P key Int where
 ke n:=.int .i64 n
 kd:=.int .i64
 Wc:=h
 same a b:=by simp[Instr.sameNow]
 bits a:=by simp[Instr.sameBits]
 check a b w:=by
  have:∀ n,(Instr.checkKey b (n+1) key (.int .i64 a)).run P w=.ok () w:=λn=>by simp[Instr.checkKey,run_underlying h]
  exact this 9999
section alist
variable {κ α:Type} [BEq κ] [LawfulBEq κ]
def fI (l:List (κ×α)) (k:κ):Option Nat:=l.findIdx? λp=>k==p.1
def aO (l:List (κ×α)) (k:κ):Option α:=(l.find? λp=>k==p.1).map (·.2)
def fe (l:List (κ×α)) (k:κ) (v:α):List (κ×α):=match fI l k with
 | some j=>l.set j (k,v)
 | none=>l++[(k,v)]
theorem sc (l:O (κ×α)) (k:κ):aO l k=(fI l k).bind λj=>(l[j]?).map (·.2):=by
 induction l with
 | nil=>rfl
 | cons p l ih =>
  unfold aO fI at *
  rw[List.find?_cons,List.findIdx?_cons]
  by_cases h:k==p.1
  ·simp[h]
  ·simp only[h,Bool.false_eq_true,if_false] at *
   rw[ih]
   cases List.findIdx? (λp=>k==p.fst) l<;>simp
end alist
def vT {κ α:Type} (ke:κ->uB) (val:α->D) (l:List (κ×α)):List (uB×EV):=l.map λp=>(ke p.1,.d (val p.2))
section find
variable {P:uG} {key:uE} {κ α:Type} [BEq κ] [LawfulBEq κ] (K:xl P key κ)
theorem yb (k:κ):∀ (l:O (κ×α)) (ms:O MapEntry) (i:Nat),ms.map (·.key)=l.map (λp=>K.ke p.1) ->
  Instr.findNow K.kd (K.ke k) ms i=some ((fI l k).bind λj=>(ms[j]?).map λm=>(i+j,m.val))
 | [],[],i,_=>rfl
 | [],m::ms,i,h=>by simp at h
 | p::l,[],i,h=>by simp at h
 | p::l,m::ms,i,h=>by
  simp only[List.map_cons,List.cons.injEq] at h
  unfold Instr.findNow
  rw[h.1,K.same]
  by_cases hk:k==p.1
  ·simp[hk,fI,List.findIdx?_cons]
  ·have Ro:(k==p.1)=false:=by simpa using hk
   rw[Ro]
   simp only[]
   rw[yb k l ms (i+1) h.2]
   unfold fI
   rw[List.findIdx?_cons,Ro]
   simp only[Bool.false_eq_true,if_false]
   cases List.findIdx? (λp=>k==p.1) l with
   | none=>rfl
   | some j =>
    simp only[Option.bind_some,Option.map_some,List.getElem?_cons_succ]
    congr 2
    funext m
    congr 1
    omega
theorem Dg (k:κ) {l:O (κ×α)} {ms:O MapEntry} (h:ms.map (·.key)=l.map (λp=>K.ke p.1)) (w:uC) :
  (Instr.findKey key (K.ke k) ms).run P w=.ok ((fI l k).bind λj=>(ms[j]?).map λm=>(j,m.val)) w:=by
 simp only[Instr.findKey,Sem.run_bind,run_underlying K.Wc,Result.andThen_ok,yb K k l ms 0 h,Sem.run_pure,Nat.zero_add]
end find
theorem Dh {κ α:Type} [BEq κ] {l:O (κ×α)} {k:κ} {j:Nat} (h:fI l k=some j):j<l.length:=by
 unfold fI at h
 rw[List.findIdx?_eq_some_iff_getElem] at h
 exact h.1
section rules
variable {P:uG} {base:Nat} {env:Env} {st:St} {d:Option Tmp} {ty:uE} {pos:String} {after:uD Edge} {gd:Option (Nat×Bool)} {t t2 e key:uE} {x y z:uH}
 {κ α:Type} [BEq κ] [LawfulBEq κ]
theorem nP:tQ P base env st ⟨d,.makeMap t none,ty,pos,after,gd⟩ (.mp st.aR.length) (st.add (.map [])):=by
 intro g w tmps hinv he
 obtain ⟨g',hi,hs,zO⟩:=hinv.newObj (.map []) (.map #[] 0) (λJy zP e=>by cases e) (λes e=>by cases e;exact ⟨rfl,rfl⟩)
 refine ⟨.map (some w.heap.size),g',_,?_,?_,hi,hs⟩
 ·simp[execOp,Instr.makeMap]
 ·rw[←zO];exact .mp _ (by simp[St.add])
end rules
inductive FK where
 | i (k:IntKind)
 | b
 | s
def Di:Option TypeDesc->Option FK
 | some (.int k)=>some (.i k)
 | some .bool=>some .b
 | some .string=>some .s
 | _=>none
def qQ:FK->uB->Bool
 | .i k,.int k' _=>decide (k=k')
 | .b,.bool _=>true
 | .s,.string _=>true
 | _,_=>false
def PS:uB->uB->Bool
 | .int _ a,.int _ b=>a==b
 | .bool a,.bool b=>a==b
 | .string a,.string b=>a.toList==b.toList
 | _,_=>false
def jy:List uB->List uB->Bool
 | [],[]=>true
 | x::xs,y::ys=>PS x y && jy xs ys
 | _,_=>false
def fitAll:List FK->List uB->Bool
 | [],[]=>true
 | k::ks,v::vs=>qQ k v && fitAll ks vs
 | _,_=>false
def sd (P:uG):Nat->List Field->Option (List FK)
 | _,[]=>some []
 | n,f::fs=>match Nat.beq f.offset n,decide (f.name ≠ "_"),Di (P.underlying f.type),sd P (n+1) fs with
  | true,true,some k,some ks=>some (k::ks)
  | _,_,_,_=>none
def pU (P:uG) (t:uE):Option (List FK):=match P.underlying t with
 | some (.struct fs)=>if P.stoodInHeld t || P.eqGuardType P.depth t then none else sd P 0 fs.toList
 | _=>none
section eq
variable {P:uG}
theorem se {t:uE} {k:FK} (h:Di (P.underlying t)=some k) {cs:uD uB} {off:Nat} {v:uB} (hv:cs[off]?=some v) (w:uC):(part t cs off).run P w=.ok v w:=by
 have h1:(P.underlying t).map jm=some true:=by
  cases hd:P.underlying t with
  | none=>rw[hd] at h;cases h
  | some Ia=>rw[hd] at h;cases Ia<;>first|rfl|cases h
 simp[part,rZ h1,hv]
theorem sf {t:uE} {k:FK} (h:Di (P.underlying t)=some k) {x y:uB} (hx:qQ k x=true) (hy:qQ k y=true) (n:Nat) (w:uC):(Op.equalIn (n+1) t x y).run P w=.ok (PS x y) w:=by
 cases hd:P.underlying t with
 | none=>rw[hd] at h;cases h
 | some Ia =>
  rw[hd] at h
  cases Ia<;>simp only[Di,Option.some.injEq,reduceCtorEq] at h
  ·subst h
   cases x<;>simp only[qQ,Bool.false_eq_true] at hx
   cases y<;>simp only[qQ,Bool.false_eq_true] at hy
   exact run_equalIn_bool' w n t _ _ hd
  ·subst h
   cases x<;>simp only[qQ,Bool.false_eq_true] at hx
   cases y<;>simp only[qQ,Bool.false_eq_true] at hy
   have e1:=of_decide_eq_true hx
   have e2:=of_decide_eq_true hy
   rw[←e1,←e2]
   exact run_equalIn_int w n t _ _ _ _ hd
  ·subst h
   cases x<;>simp only[qQ,Bool.false_eq_true] at hx
   cases y<;>simp only[qQ,Bool.false_eq_true] at hy
   exact run_equalIn_string w n t _ _ hd
theorem tC (n:Nat) (w:uC):∀ (fs:List Field) (k:Nat) (ks:List FK) (xs ys:List uB) (X Y:uD uB),sd P k fs=some ks->fitAll ks xs=true->fitAll ks ys=true ->
  (∀ (j:Nat) v,xs[j]?=some v->X[k+j]?=some v)->(∀ (j:Nat) v,ys[j]?=some v->Y[k+j]?=some v)->(Op.eqFields (n+1) X Y fs).run P w=.ok (jy xs ys) w
 | [],k,ks,xs,ys,X,Y,h,hx,hy,_,_=>by
  simp only[sd,Option.some.injEq] at h
  subst h
  match xs,ys with
  | [],[]=>rfl
  | _::_,_=>cases hx
  | [],_::_=>cases hy
 | f::fs,k,ks,xs,ys,X,Y,h,hx,hy,hX,hY=>by
  unfold sd at h
  split at h
  ·rename_i kk UI h1 h2 h3 h4
   simp only[Option.some.injEq] at h
   subst h
   match xs,ys with
   | [],_=>cases hx
   | _::_,[]=>cases hy
   | x::xs,y::ys =>
    simp only[fitAll,Bool.and_eq_true] at hx hy
    have ho:=Nat.eq_of_beq_eq_true h1
    have Kc:f.name ≠ "_" := of_decide_eq_true h2
    have px:=se h3 (cs:=X) (off:=f.offset) (hX 0 x rfl |> λh=>by rw[ho];simpa using h) w
    have py:=se h3 (cs:=Y) (off:=f.offset) (hY 0 y rfl |> λh=>by rw[ho];simpa using h) w
    have pe:=sf h3 hx.1 hy.1 n w
    have ih:=tC n w fs (k+1) UI xs ys X Y h4 hx.2 hy.2 (λj v hv=>by have:=hX (j+1) v (by simpa using hv);rwa [show k+1+j=k+(j+1) by omega]) (λj v hv=>by have:=hY (j+1) v (by simpa using hv);rwa [show k+1+j=k+(j+1) by omega])
    simp only[Op.eqFields,if_pos Kc,Sem.run_bind,px,py,pe,Result.andThen_ok,Sem.run_ite,jy]
    cases PS x y
    ·rfl
    ·simpa using ih
  ·cases h
theorem MT {t:uE} {ks:O FK} (h:pU P t=some ks) {xs ys:O uB} (hx:fitAll ks xs=true) (hy:fitAll ks ys=true) (w:uC) (op:BinOp) (x y:uH) :
  (eqGuard op t x y (.agg xs.toArray) (.agg ys.toArray)).run P w=.ok () w/\(Op.equalIn 10000 t (.agg xs.toArray) (.agg ys.toArray)).run P w=.ok (jy xs ys) w:=by
 unfold pU at h
 split at h
 ·rename_i fs hu
  split at h
  ·cases h
  ·rename_i G0
   simp only[Bool.or_eq_true,not_or,Bool.not_eq_true] at G0
   have MP:P.fieldsOf t=fs:=by simp[Program.fieldsOf,hu]
   refine ⟨run_eqGuard_agg w op t x y _ _ G0.2,?_⟩
   rw[run_equalIn_struct w 9999 t _ _ (by rw[MP];exact hu) G0.1,MP]
   exact tC 9998 w fs.toList 0 ks xs ys _ _ h hx hy (λj v hv=>by simpa using hv) (λj v hv=>by simpa using hv)
 ·cases h
end eq
theorem G1 {bl:Nat->Nat} {w:uC} {u v:uB} (h:cT bl w (.ex u) v):v=u:=by cases h;rfl
def MU:List D->Option (List uB)
 | []=>some []
 | .ex v::l=>match MU l with
  | some r=>some (v::r)
  | none=>none
 | _::_=>none
theorem G2:∀ {l:O D} {vs:O uB},MU l=some vs->l=vs.map D.ex
 | [],vs,h=>by simp[MU] at h;subst h;rfl
 | .ex v::l,vs,h=>by
  unfold MU at h
  split at h
  ·rename_i r hr
   simp only[Option.some.injEq] at h
   subst h
   rw[G2 hr]
   rfl
  ·cases h
 | .agg _::l,vs,h=>by cases h
 | .dp _::l,vs,h=>by cases h
 | .sl _ _::l,vs,h=>by cases h
 | .ro _::l,vs,h=>by cases h
 | .e0 _::l,vs,h=>by cases h
 | .any::l,vs,h=>by cases h
theorem s6 {bl:Nat->Nat} {w:uC} {cs:O D} {vs:O uB} {v:uB} (h:MU cs=some vs) (hr:cT bl w (.agg cs) v):v=.agg vs.toArray:=by
 have hm:=G2 h
 subst hm
 cases hr with
 | agg _ us hs _ hc =>
  congr 1
  apply Array.ext'
  apply List.ext_getElem?
  intro i
  simp only[List.length_map] at hs
  by_cases hi:i<vs.length
  ·have h1:us[i]?=some (us[i]'(by omega)):=Array.getElem?_eq_getElem (by omega)
   have h2:=hc i (.ex vs[i]) _ (by rw[List.getElem?_map,List.getElem?_eq_getElem hi];rfl) h1
   rw[Array.getElem?_toList,h1,List.getElem?_eq_getElem hi,G1 h2]
  ·rw[List.getElem?_eq_none (by simp;omega),List.getElem?_eq_none (by simp;omega)]
section rules
variable {P:uG} {f:Ctx} {N:Nat} {S:Start} {Q:EV->St->Prop} {k:List Item} {base:Nat} {env:Env} {st:St} {ops rest:List Oper} {d:Option Tmp} {ty:uE} {pos:String} {after:uD Edge} {gd:Option (Nat×Bool)} {t t2 e:uE} {x y z:uH}
section steq
variable {ks:List FK} {cs ds:List D} {xs ys:List uB} (hk:pU P t=some ks) (hx:bI env x=some (.d (.agg cs))) (hy:bI env y=some (.d (.agg ds))) (h1:MU cs=some xs) (h2:MU ds=some ys) (h3:fitAll ks xs=true) (h4:fitAll ks ys=true)
include hk hx hy h1 h2 h3 h4
theorem G3:az P env st ⟨d,.binOp .neq t x y t2,ty,pos,after,gd⟩ (.d (.ex (.bool (!jy xs ys)))):=j0 λg w tmps w' he=>by
 obtain ⟨k1,k2⟩:=MT hk h3 h4 w' .neq x y
 have e1:Act.eval ⟨tmps,[]⟩ x=.agg xs.toArray:=by cases aA he hx with|d _ _ h=>exact s6 h1 h
 have e2:Act.eval ⟨tmps,[]⟩ y=.agg ys.toArray:=by cases aA he hy with|d _ _ h=>exact s6 h2 h
 simp only[execOp,e1,e2,Sem.run_bind,k1,Result.andThen_ok,run_neq_struct,k2,Sem.run_pure]
end steq
theorem FJ {f':FuncId} {l:O uH} {es:O EV} (h:xN env l=some es):az P env st ⟨d,.makeFunc (.func f') #[] l.toArray,ty,pos,after,gd⟩ (.xj f' es):=by
 intro g base w tmps hinv he
 obtain ⟨k1,k2⟩:=r3 he l es h
 refine ⟨.func (.func f') #[] (l.map (Act.eval ⟨tmps,[]⟩)).toArray,.xj f' es _ (by simp[k1]) (λi c u hc hu=>k2 i c u hc (by simpa using hu)),λw' _=>?_⟩
 simp[execOp,Instr.makeFunc]
theorem foldl_push:∀ (l:O uA) (b:ByteArray),(l.map λb=>(b.toNat:Int)).foldl (λr n=>r.push (UInt8.ofNat n.toNat)) b=⟨b.data++l.toArray⟩
 | [],b=>by simp
 | c::l,b=>by
  rw[List.map_cons,List.foldl_cons,foldl_push l]
  have:UInt8.ofNat (c.toNat:Int).toNat=c:=by simp
  rw[this]
  congr 1
  apply Array.ext'
  simp[ByteArray.push]
theorem pf {w:uC} {A:J Addr} {c:Nat} {l:O uA} (h:A=none->l=[]) (hc:∀ a,A=some a->(loadCells a l.length).run P w=.ok (l.map λb=>Value.int .u8 (b.toNat:Int)).toArray w) :
  (Conv.bytesToString (.slice A l.length c)).run P w=.ok (.string ⟨l.toArray⟩) w:=by
 cases A with
 | none =>
  have:=h rfl
  subst this
  rfl
 | some a =>
  have h1:=run_bytesToString (P:=P) w a l.length c (l.map λb=>(b.toNat:Int)) (by rw[hc a rfl];simp[Function.comp_def])
  rw[h1,foldl_push]
  congr 2
  simp[ByteArray.empty,ByteArray.emptyWithCapacity]
  rfl
theorem FL {ev:EV} {l:O uA} (hs:P.underlying t=some (.slice e)) (rX:P.underlying e=some (.int .u8)) (hd:P.underlying t2=some .string) (hx:bI env x=some ev) (GZ:oa ev=some (1,dH l)) :
  az P env st ⟨d,.convert t t2 x,ty,pos,after,gd⟩ (.d (.ex (.string ⟨l.toArray⟩))):=λg base w tmps hinv he=>by
 refine ⟨_,.d _ _ (.ex _),λw' hb=>?_⟩
 obtain ⟨A,c,vs,hv,hl,hA,xQ,cX,hr,lI⟩:=JS (ko GZ (aA he hx))
 have hlen:(dH l).length=l.length:=by simp[dH]
 have zV:vs=l.map λb=>Value.int .u8 (b.toNat:Int):=by
  apply List.ext_getElem?
  intro j
  have By:(dH l).flatten=l.map λb=>D.ex (.int .u8 (b.toNat:Int)):=by
   unfold dH
   clear lI hr cX xQ hA hl hv GZ hlen
   induction l with
   | nil=>rfl
   | cons a l ih=>simp[ih]
  by_cases hj:j<l.length
  ·have h1:vs[j]?=some (vs[j]'(by omega)):=List.getElem?_eq_getElem (by omega)
   have h2:=(lI j _ (.ex (.int .u8 ((l[j]).toNat:Int))) h1 (by rw[By,List.getElem?_map,List.getElem?_eq_getElem hj];rfl)).1
   rw[h1,List.getElem?_map,List.getElem?_eq_getElem hj,G1 h2]
   rfl
  ·rw[List.getElem?_eq_none (by omega),List.getElem?_eq_none (by simp;omega)]
 rw[hlen] at hv
 simp only[execOp,hv,Sem.run_bind,run_convert_bytes_string w' t t2 e A l.length c hs rX hd]
 rw[pf (λh0=>by have:=(xQ h0).1;rw[hlen] at this;exact List.eq_nil_of_length_eq_zero this) (λa ha=>?_)]
 ·rfl
 ·rcases hA with h0|⟨b,off,uN⟩
  ·rw[hlen] at h0
   have:l=[]:=List.eq_nil_of_length_eq_zero h0
   subst this
   simp[loadCells,loadCellsFrom]
  ·rw[ha] at uN
   cases uN
   have:=gR (P:=P) (w:=w') (b:=b) (off:=off) (n:=l.length) (vs:=vs) (by rw[hl,hlen];omega) (λj u hu=>by
    have h3:=cX b off ha j u hu
    exact (hb.cell (World.block_lt_of_cell? w _ h3)).trans h3)
   rw[this,zV]
theorem gB {o off n m sz:Nat} {k:IntKind} {i:Int} (ht:P.underlying t=some (.array n e)) (hi:∃ inf,P.info? e=some inf/\inf.size=sz) (hx:bI env x=some (.ref o off)) (hy:bI env y=some (.d (.ex (.int k i)))) (hm:i=m) (cd:m<n) :
  az P env st ⟨d,.indexAddr t x y,ty,pos,after,gd⟩ (.ref o (off+m*sz)):=λg base w tmps hinv he=>by
 subst hm
 obtain ⟨inf,hi,rfl⟩:=hi
 have h:=aA he hx
 generalize hv:Act.eval ⟨tmps,[]⟩ x=v at h
 have My:=(aA he hy).aZ
 cases h with
 | ref _ _ jv =>
  refine ⟨.pointer (some ⟨g.ob o,off+m*inf.size,none⟩),.ref _ _ jv,λw' _=>?_⟩
  simp[execOp,hv,My,Instr.indexAt,asIntOf,run_underlying ht,Instr.sureAddr,sizeOf,typeInfo,hi,cd,Addr.add_lit]
theorem Kd {o off n m sz:Nat} {k:IntKind} {i:Int} (ht:P.underlying t=some (.array n e)) (hi:∃ inf,P.info? e=some inf/\inf.size=sz) (hx:bI env x=some (.ref o off)) (hy:bI env y=some (.d (.ex (.int k i)))) (hm:i=m) (cd:m<n) :
  az P env st ⟨d,.slice t x (some y) none none,ty,pos,after,gd⟩ (.wW o (off+m*sz) (n-m) (n-m)):=λg base w tmps hinv he=>by
 subst hm
 obtain ⟨inf,hi,rfl⟩:=hi
 have h:=aA he hx
 generalize hv:Act.eval ⟨tmps,[]⟩ x=v at h
 have My:=(aA he hy).aZ
 cases h with
 | ref _ _ jv =>
  refine ⟨.slice (some ⟨g.ob o,off+m*inf.size,none⟩) (n-m) (n-m),.wW _ _ _ _ jv,λw' _=>?_⟩
  have hb:=run_sliceBound (P:=P) w' k (m:Int) n .sliceB (by omega) (by omega)
  have dq:¬ n=m:=by omega
  simp[execOp,hv,My,Instr.sliceAt,run_underlying ht,Instr.sureAddr,Instr.sliceBounds,hb,sizeOf,typeInfo,hi,dq,Addr.add_lit]
theorem Ke {o off n c:Nat} {T:uE} {cs:O EV} {l:O uA} (hs:P.underlying t=some (.slice e)) (rX:P.underlying e=some (.int .u8)) (hd:P.underlying t2=some .string) (hx:bI env x=some (.wW o off n c)) (ho:st.aR[o]?=some (.row T cs))
  (hl:l.length=n) (hc:∀ (j:Nat) b,l[j]?=some b->cs[off+j]?=some (.d (.ex (.int .u8 (b.toNat:Int))))) :
  az P env st ⟨d,.convert t t2 x,ty,pos,after,gd⟩ (.d (.ex (.string ⟨l.toArray⟩))):=λg base w tmps hinv he=>by
 refine ⟨_,.d _ _ (.ex _),λw' hb=>?_⟩
 have h:=aA he hx
 generalize hv:Act.eval ⟨tmps,[]⟩ x=v at h
 subst hl
 cases h with
 | wW _ _ _ _ cd =>
  obtain ⟨_,_,vs,TY,iW,rC⟩:=hinv.row o T cs ho
  simp only[execOp,hv,Sem.run_bind,run_convert_bytes_string w' t t2 e _ l.length c hs rX hd]
  rw[pf (λh0=>by cases h0) (λa ha=>?_)]
  ·rfl
  ·cases ha
   refine gR (by simp) (λj u hu=>?_)
   rw[List.getElem?_map] at hu
   cases hj:l[j]? with
   | none=>rw[hj] at hu;cases hu
   | some b =>
    rw[hj] at hu
    cases hu
    have GR:=hc j b hj
    have UJ:off+j<vs.size:=by rw[iW];exact (List.getElem?_eq_some_iff.1 GR).1
    have Wd:vs[off+j]?=some vs[off+j]:=Array.getElem?_eq_getElem UJ
    have hr:=((rC (off+j) _ _ GR Wd).1).aZ
    have cX:w.cell? ⟨g.ob o,off+j,none⟩=some vs[off+j]:=by rw[cell_of_row w _ _ vs T (0,0) TY];exact Wd
    rw[(hb.cell (World.block_lt_of_cell? w _ cX)).trans cX,hr]
end rules
section rules
variable {P:uG} {f:Ctx} {N:Nat} {S:Start} {Q:EV->St->Prop} {k:List Item} {base:Nat} {env:Env} {st:St} {ops rest:List Oper} {d:Option Tmp} {ty:uE} {pos:String} {after:uD Edge} {gd:Option (Nat×Bool)} {t t2 e:uE} {x y z:uH}
theorem Dj {n m:Nat} {inf:TypeInfo} {cs:O D} {c:D} {k:IntKind} {i:Int} (ht:P.underlying t=some (.array n e)) (h1:(P.underlying e).map jm=some true) (hi:P.info? e=some inf) (hs:inf.size=1)
  (hx:bI env x=some (.d (.agg cs))) (hy:bI env y=some (.d (.ex (.int k i)))) (hm:i=m) (cd:m<n) (hc:cs[m]?=some c) :
  az P env st ⟨d,.index t x y,ty,pos,after,gd⟩ (.d c):=λg base w tmps hinv he=>by
 subst hm
 have h:=aA he hx
 generalize hv:Act.eval ⟨tmps,[]⟩ x=v at h
 have My:=(aA he hy).aZ
 cases h with
 | d _ _ h =>
  cases h with
  | agg _ us iW Yd kn =>
   have jv:m<us.size:=by rw[iW];exact (List.getElem?_eq_some_iff.1 hc).1
   have hu:us[m]?=some us[m]:=Array.getElem?_eq_getElem jv
   refine ⟨us[m],.d _ _ (kn m c _ hc hu),λw' hb=>?_⟩
   have W6:=rZ (P:=P) h1 w'
   simp[execOp,hv,My,Instr.index,asIntOf,run_underlying ht,sizeOf,typeInfo,hi,hs,cd,part,W6,jv]
theorem gl {n sz:Nat} {inf ie:TypeInfo} {z:uB} {zs r:O D} {l:O (Nat×uH)} (ht:P.underlying t=some (.array n e)) (hi:P.info? t=some inf) (hz:inf.zero=some z) (W8:P.info? e=some ie) (Io:ie.size=sz) (m9:cellsD (.d (cv z))=some zs)
  (hl:zY (λi=>some (i*sz,sz)) env zs l=some r):az P env st ⟨d,.build t l.toArray,ty,pos,after,gd⟩ (.d (.agg r)):=by
 intro g base w tmps hinv he
 have wY:=j4 (g:=g) (w:=w) (st:=st) m9 (.d _ _ (qG _ _ z))
 obtain ⟨us,h1,h2,h3⟩:=r8 he l zs z.cells r hl wY
 refine ⟨.agg us,.d _ _ (.agg r us h2.1 (λi u hu=>?_) λi c u hc hu=>(h2.2 i c u hc hu).1),λw' hb=>?_⟩
 ·have hi':i<r.length:=by rw[←h2.1];exact (Array.getElem?_eq_some_iff.1 hu).1
  exact (h2.2 i _ u (List.getElem?_eq_getElem hi') hu).2
 ·subst Io
  have W9:(sizeOf e:Sem Nat).run P w'=.ok ie.size w':=by simp[sizeOf,typeInfo,W8]
  simp only[execOp,Instr.build,Sem.run_bind,r9 hi hz,Result.andThen_ok,run_underlying ht,List.map_toArray,W9]
  rw[h1]
  simp
def rE (x y:D):Prop:=∀ bl w v,cT bl w x v->cT bl w y v
theorem rE.av (x:D):rE x x:=λ_ _ _ h=>h
theorem rE.nil (sz:Nat):rE (.ex (.slice none 0 0)) (.sl sz []):=λ_ _ _ h=>by cases h;exact .nil sz _
def z7:List D->List D->Prop
 | [],[]=>True
 | x::xs,y::ys=>rE x y/\z7 xs ys
 | _,_=>False
theorem z7.get:∀ {xs ys:O D},z7 xs ys->xs.length=ys.length/\∀ (i:Nat) y,ys[i]?=some y->∃ x,xs[i]?=some x/\rE x y
 | [],[],_=>⟨rfl,λi y h=>by simp at h⟩
 | x::xs,y::ys,h=>by
  obtain ⟨h1,h2⟩:=z7.get h.2
  refine ⟨by simp[h1],λi z hz=>?_⟩
  cases i with
  | zero=>simp at hz;subst hz;exact ⟨x,rfl,h.1⟩
  | succ i=>simpa using h2 i z (by simpa using hz)
 | [],_::_,h=>h.elim
 | _::_,[],h=>h.elim
theorem rE.agg {xs ys:O D} (h:z7 xs ys):rE (.agg xs) (.agg ys):=by
 intro bl w v hv
 obtain ⟨h1,h2⟩:=h.get
 cases hv with
 | agg _ vs hs ho hc =>
  refine .agg _ vs (by rw[hs,h1]) ho λi c u hi hu=>?_
  obtain ⟨x,hx,hle⟩:=h2 i c hi
  exact hle bl w u (hc i x u hx hu)
def Dk:List (List D)->List (List D)->Prop
 | [],[]=>True
 | x::xs,y::ys=>z7 x y/\Dk xs ys
 | _,_=>False
theorem Dk.get:∀ {xs ys:O (O D)},Dk xs ys->xs.length=ys.length/\∀ (i:Nat) y,ys[i]?=some y->∃ x,xs[i]?=some x/\z7 x y
 | [],[],_=>⟨rfl,λi y h=>by simp at h⟩
 | x::xs,y::ys,h=>by
  obtain ⟨h1,h2⟩:=Dk.get h.2
  refine ⟨by simp[h1],λi z hz=>?_⟩
  cases i with
  | zero=>simp at hz;subst hz;exact ⟨x,rfl,h.1⟩
  | succ i=>simpa using h2 i z (by simpa using hz)
 | [],_::_,h=>h.elim
 | _::_,[],h=>h.elim
theorem rE.sl {sz:Nat} {xs ys:O (O D)} (h:Dk xs ys):rE (.sl sz xs) (.sl sz ys):=by
 intro bl w v hv
 obtain ⟨h1,h2⟩:=h.get
 cases hv with
 | nil =>
  have:ys=[]:=List.eq_nil_of_length_eq_zero (by rw[←h1];rfl)
  subst this
  exact .nil sz _
 | sl _ _ b off cap hc hr hx hh =>
  rw[h1]
  refine .sl sz ys b off cap (by rw[←h1];exact hc) (λrow vL=>?_) (λk hk=>hx k (by rw[h1];exact hk)) λi j row c u hi hj hu=>?_
  ·obtain ⟨i,hi⟩:=List.mem_iff_getElem?.1 vL
   obtain ⟨x,g4,hle⟩:=h2 i row hi
   rw[←hle.get.1]
   exact hr x (List.mem_of_getElem? g4)
  ·obtain ⟨x,g4,hle⟩:=h2 i row hi
   obtain ⟨d,hd,hl⟩:=hle.get.2 j c hj
   exact hl bl w u (hh i j x d u g4 hd hu)
theorem aB.le {f:FuncId} {xs ys:O D} {q:D->Prop} (h:aB P f ys q) (hle:z7 xs ys):aB P f xs q:=by
 intro bl w vs hg ha
 obtain ⟨h1,h2⟩:=hle.get
 refine h bl w vs hg ⟨by rw[ha.1,h1],λi y v hy hv=>?_⟩
 obtain ⟨x,hx,hl⟩:=h2 i y hy
 exact hl bl w v (ha.2 i x v hx hv)
end rules
def ck {α:Type} (p:Prop) [Decidable p] (k:Option α):Option α:=if p then k else none
theorem ab {α:Type} {p:Prop} [Decidable p] {k:J α} {r:α} (h:ck p k=some r):p/\k=some r:=by
 unfold ck at h
 split at h
 ·exact ⟨by assumption,h⟩
 ·cases h
abbrev bN (x:Int):Prop:=-9223372036854775808<=x/\x<=9223372036854775807
theorem ae {α:Type} {p:Prop} [Decidable p] {k:J α} (h:p):ck p k=k:=if_pos h
def eG {α:Type} [Inhabited α] (b:Bool) (o:Option α):Option α:=if b=true then o else some default
theorem b6 {α:Type} [Inhabited α] {b:Bool} {o:J α} {y:α} (h:eG b o=some y):b=true->o=some y:=λhb=>by
 rw[eG,if_pos hb] at h;exact h
theorem af {α β:Type} {o:J α} {k:α->J β} {r:β} (h:o.bind k=some r):∃ y,o=some y/\k y=some r:=by
 cases o with
 | none=>cases h
 | some y=>exact ⟨y,rfl,h⟩
theorem bK {α β:Type} {o:J α} {k:α->β} {r:β} (h:o.map k=some r):∃ y,o=some y/\k y=r:=by
 cases o with
 | none=>cases h
 | some y=>exact ⟨y,rfl,by simpa using h⟩
def iter {S R:Type} (step:S->Option (S ⊕ R)):Nat->S->Option R
 | 0,_=>none
 | n+1,s=>match step s with
  | none=>none
  | some (.inl s')=>iter step n s'
  | some (.inr r)=>some r
def loop {S R:Type} (step:S->Option (S ⊕ R)) (s:S):Option R:=iter step 18446744073709551616 s
theorem Ip {S R:Type} {step:S->J (S ⊕ R)} {s:S} {r:R} (h:loop step s=some r):∃ n,iter step n s=some r:=⟨_,h⟩
def Xa {S R:Type} (step:S->Option (S ⊕ R)) (n:Nat) (ρ:R):S ⊕ R->Prop
 | .inl s=>iter step n s=some ρ
 | .inr r=>r=ρ
theorem Iq {S R:Type} {step:S->J (S ⊕ R)} {n:Nat} {s:S} {ρ:R} (h:iter step n s=some ρ):∃ m q,m<n/\step s=some q/\Xa step m ρ q:=by
 cases n with
 | zero=>cases h
 | succ m =>
  unfold iter at h
  split at h
  ·cases h
  ·rename_i s' hs;exact ⟨m,_,Nat.lt_succ_self _,hs,h⟩
  ·rename_i r hs;cases h;exact ⟨m,_,Nat.lt_succ_self _,hs,rfl⟩
def Kq {S R:Type} (r:R) (P:S->Prop):S⊕R->Prop
 | .inl s=>P s
 | .inr x=>x=r
theorem ba.lp {P:uG} {f:Ctx} {N:Nat} {S:Start} {Q:EV->St->Prop} {k:O Item} {env:Env} {st:St} {c:Code} {σ R:Type} {F:σ->J (σ⊕R)} {s0:σ} {r:R} (H:Go.Abs.loop F s0=some r) (E:σ->Env) (T:σ->St) (hE:cL env (E s0)) (hT:st=T s0) (step:∀ s q,F s=some q->Kq r (λj=>ba P f N S Q (.inLoop c::k) (E j) (T j)) q->ba P f N S Q (.code c::.inLoop c::k) (E s) (T s)):ba P f N S Q (.code (.loop c)::k) env st:=by
 obtain ⟨n,H⟩:=Ip H
 refine .loop (ι:=Nat×σ) (λp=>E p.2) (λp=>T p.2) (λp=>iter F p.1 p.2=some r) (·.1) (n,s0) H hE hT ?_
 rintro ⟨m,s⟩ HI ih
 obtain ⟨m1,q,hm,h,hk⟩:=Iq HI
 refine step s q h ?_
 cases q with
 | inl j=>exact ih (m1,j) hk hm
 | inr x=>exact hk
theorem cy {S R:Type} {step:S->J (S ⊕ R)} (F:S->J R) (I:S->Prop) (μ:S->Nat)
  (h:∀ s,I s->(∃ r,step s=some (.inr r)/\F s=some r)∨∃ s',step s=some (.inl s')/\I s'/\μ s'<μ s/\F s'=F s) {s:S} (hI:I s) (hμ:μ s<18446744073709551616):loop step s=F s:=by
 have key:∀ n s,I s->μ s<n->∃ r,iter step n s=some r/\F s=some r:=by
  intro n
  induction n with
  | zero=>intro s _ hn;omega
  | succ n ih =>
   intro s hI hn
   rcases h s hI with ⟨r,h1,h2⟩|⟨s',h1,h2,h3,h4⟩
   ·exact ⟨r,by unfold iter;rw[h1],h2⟩
   ·obtain ⟨r,k1,k2⟩:=ih s' h2 (by omega)
    exact ⟨r,by unfold iter;rw[h1];exact k1,by rw[←h4];exact k2⟩
 obtain ⟨r,h1,h2⟩:=key _ s hI hμ
 rw[h2];exact h1
theorem ka {S R:Type} {step:S->J (S ⊕ R)} (Q:R->Prop) (I:S->Prop) (μ:S->Nat)
  (h:∀ s,I s->(∃ r,step s=some (.inr r)/\Q r)∨∃ s',step s=some (.inl s')/\I s'/\μ s'<μ s) {s:S} (hI:I s) (hμ:μ s<18446744073709551616):∃ r,loop step s=some r/\Q r:=by
 have key:∀ n s,I s->μ s<n->∃ r,iter step n s=some r/\Q r:=by
  intro n
  induction n with
  | zero=>intro s _ hn;omega
  | succ n ih =>
   intro s hI hn
   rcases h s hI with ⟨r,h1,h2⟩|⟨s',h1,h2,h3⟩
   ·exact ⟨r,by unfold iter;rw[h1],h2⟩
   ·obtain ⟨r,k1,k2⟩:=ih s' h2 (by omega)
    exact ⟨r,by unfold iter;rw[h1];exact k1,k2⟩
 exact key _ s hI hμ
abbrev uW (b:uA):D:=.ex (.int .u8 (b.toNat:Int))
abbrev cK (k:IntKind) (n:Int):D:=.ex (.int k n)
abbrev bT:D:=.ex (.slice none 0 0)
def Kf {α:Type} (sz:Nat) (row:α->List D) (l:List α):List D:=[.sl sz (l.map row)]
theorem dB.d {x y:D} (h:rE x y):dB (.d x) (.d y):=λg w st v hv=>by cases hv with|d _ _ hd=>exact .d _ _ (h _ _ _ hd)
theorem rE.e0 (sz:Nat):rE (.e0 sz) (.sl sz []):=λ_ _ _ h=>D.GH h
theorem rE.dp {xs ys:O D} (h:z7 xs ys):rE (.dp xs) (.dp ys):=by
 intro bl w v hv
 obtain ⟨h1,h2⟩:=h.get
 cases hv with
 | dp _ vs hs hc =>
  refine .dp _ vs (by rw[hs,h1]) λi c u hi hu=>?_
  obtain ⟨x,hx,hle⟩:=h2 i c hi
  exact hle bl w u (hc i x u hx hu)
theorem rE.ro {xs ys:O D} (h:z7 xs ys):rE (.ro xs) (.ro ys):=by
 intro bl w v hv
 obtain ⟨h1,h2⟩:=h.get
 cases hv with
 | ro _ b off hx hc =>
  refine .ro ys b off (λk hk=>hx k (by rw[h1];exact hk)) λj c u hj hu=>?_
  obtain ⟨x,g4,hle⟩:=h2 j c hj
  exact hle bl w u (hc j x u g4 hu)
theorem az.le {P:uG} {env:Env} {st:St} {o:Oper} {x y:EV} (h:az P env st o x) (hle:dB x y):az P env st o y:=λg b w t hi he =>
 let ⟨v,h1,h2⟩:=h g b w t hi he
 ⟨v,hle _ _ _ _ h1,h2⟩
theorem ti.le {P:uG} {env:Env} {st:St} {o:Oper} {x y:EV} (h:ti P env st o x) (hle:dB x y):ti P env st o y:=λg b w t hi he=>by
 rcases h g b w t hi he with ⟨v,l,w',h1,h2,h3,h4⟩|⟨f,a,h1,h2⟩
 ·exact .inl ⟨v,l,w',h1,hle _ _ _ _ h2,h3,h4⟩
 ·exact .inr ⟨f,a,h1,h2.mono λe w' ⟨v,l,k0,k1,k2,k3⟩=>⟨v,l,k0,hle _ _ _ _ k1,k2,k3⟩⟩
section q
variable {P:uG} {base:Nat} {env:Env} {st:St} {d:Option Tmp} {ty:uE} {pos:String} {after:uD Edge} {gd:Option (Nat×Bool)} {t t2 e:uE} {x y z:uH}
section u8
variable {a b:uA} (hx:bI env x=some (.d (uW a))) (hy:bI env y=some (.d (uW b)))
theorem TZ (n:Int):IntKind.u8.wrap n=((UInt8.ofInt n).toNat:Int):=by
 simp only[IntKind.wrap,IntKind.signed,IntKind.bits,UInt8.ofInt]
 simp[UInt8.toNat_ofNat']
 omega
theorem Sr (a b:uA):IntKind.u8.wrap ((a.toNat:Int)+b.toNat)=((a+b).toNat:Int):=by
 rw[TZ,UInt8.toNat_add];simp[UInt8.ofInt,UInt8.toNat_ofNat'];omega
theorem Ss (a b:uA):IntKind.u8.wrap ((a.toNat:Int) - b.toNat)=((a-b).toNat:Int):=by
 have h1:=a.toNat_lt
 have h2:=b.toNat_lt
 rw[TZ,UInt8.toNat_sub];simp[UInt8.ofInt,UInt8.toNat_ofNat'];omega
theorem Su (a b:uA):IntKind.u8.wrap ((a.toNat:Int).tdiv b.toNat)=((a / b).toNat:Int):=by
 have h1:=a.toNat_lt
 have h2:=Nat.div_le_self a.toNat b.toNat
 rw[Int.tdiv_eq_ediv_of_nonneg (by omega),←Int.natCast_ediv,TZ,UInt8.toNat_div]
 generalize a.toNat / b.toNat=n at h2
 simp[UInt8.ofInt,UInt8.toNat_ofNat'];omega
theorem Sv {b:uA} (h0:b≠0):(b.toNat:Int)≠0:=λh=>h0 (UInt8.toNat_inj.1 (by
 have:b.toNat=0:=by omega
 rw[this];rfl))
theorem Kg (a b:uA):((a.toNat:Int)==(b.toNat:Int))=(a==b):=by
 rw[Bool.eq_iff_iff]
 simp only[beq_iff_eq]
 constructor
 ·intro h;exact UInt8.toNat_inj.1 (by omega)
 ·intro h;rw[h]
include hx hy
theorem yc:az P env st ⟨d,.binOp .lss t x y t2,ty,pos,after,gd⟩ (.d (cB (decide (a<b)))):=by
 have:=OB (P:=P) (st:=st) (d:=d) (ty:=ty) (pos:=pos) (after:=after) (gd:=gd) (t:=t) (t2:=t2) hx hy
 rwa [show decide (((a.toNat:Int))<(b.toNat:Int))=decide (a<b) from by rw[decide_eq_decide,UInt8.lt_iff_toNat_lt];omega] at this
theorem PT:az P env st ⟨d,.binOp .leq t x y t2,ty,pos,after,gd⟩ (.d (cB (decide (a<=b)))):=by
 have:=GJ (P:=P) (st:=st) (d:=d) (ty:=ty) (pos:=pos) (after:=after) (gd:=gd) (t:=t) (t2:=t2) hx hy
 rwa [show decide (((a.toNat:Int))<=(b.toNat:Int))=decide (a<=b) from by rw[decide_eq_decide,UInt8.le_iff_toNat_le];omega] at this
theorem sg:az P env st ⟨d,.binOp .gtr t x y t2,ty,pos,after,gd⟩ (.d (cB (decide (a > b)))):=by
 have:=JF (P:=P) (st:=st) (d:=d) (ty:=ty) (pos:=pos) (after:=after) (gd:=gd) (t:=t) (t2:=t2) hx hy
 rwa [show decide (((a.toNat:Int)) > (b.toNat:Int))=decide (a > b) from by rw[decide_eq_decide,gt_iff_lt,gt_iff_lt,UInt8.lt_iff_toNat_lt];omega] at this
theorem Kh:az P env st ⟨d,.binOp .geq t x y t2,ty,pos,after,gd⟩ (.d (cB (decide (a>=b)))):=by
 have:=OC (P:=P) (st:=st) (d:=d) (ty:=ty) (pos:=pos) (after:=after) (gd:=gd) (t:=t) (t2:=t2) hx hy
 rwa [show decide (((a.toNat:Int))>=(b.toNat:Int))=decide (a>=b) from by rw[decide_eq_decide,ge_iff_le,ge_iff_le,UInt8.le_iff_toNat_le];omega] at this
theorem vU:az P env st ⟨d,.binOp .eql t x y t2,ty,pos,after,gd⟩ (.d (cB (a==b))):=by
 have:=OD (P:=P) (st:=st) (d:=d) (ty:=ty) (pos:=pos) (after:=after) (gd:=gd) (t:=t) (t2:=t2) hx hy
 rwa [Kg] at this
theorem yd:az P env st ⟨d,.binOp .neq t x y t2,ty,pos,after,gd⟩ (.d (cB (a != b))):=by
 have:=OE (P:=P) (st:=st) (d:=d) (ty:=ty) (pos:=pos) (after:=after) (gd:=gd) (t:=t) (t2:=t2) hx hy
 rwa [show ((a.toNat:Int) != (b.toNat:Int))=(a != b) from by unfold bne;rw[Kg]] at this
theorem FM:az P env st ⟨d,.binOp .add t x y t2,ty,pos,after,gd⟩ (.d (uW (a+b))):=xL hx hy (Sr a b)
theorem PU:az P env st ⟨d,.binOp .sub t x y t2,ty,pos,after,gd⟩ (.d (uW (a-b))):=OF hx hy (Ss a b)
theorem vV (h0:b≠0):az P env st ⟨d,.binOp .quo t x y t2,ty,pos,after,gd⟩ (.d (uW (a / b))):=CT hx hy (Sv h0) (Su a b)
theorem si (h0:b≠0):az P env st ⟨d,.binOp .rem t x y t2,ty,pos,after,gd⟩ (.d (uW (a % b))) :=
 CU hx hy (Sv h0) (by rw[Int.tmod_eq_emod_of_nonneg (by omega),←Int.natCast_emod,UInt8.toNat_mod])
end u8
theorem xm {k:IntKind} {n:Int} (hs:P.underlying t=some (.int k)) (ht:P.underlying t2=some (.int .u8)) (hx:bI env x=some (.d (.ex (.int k n)))) :
  az P env st ⟨d,.convert t t2 x,ty,pos,after,gd⟩ (.d (uW (UInt8.ofInt n))):=nV hs ht hx (TZ n)
theorem dw {a:uA} (hs:P.underlying t=some (.int .u8)) (ht:P.underlying t2=some (.int .i64)) (hx:bI env x=some (.d (uW a))) :
  az P env st ⟨d,.convert t t2 x,ty,pos,after,gd⟩ (.d (cI (a.toNat:Int))):=nV hs ht hx (by have:=a.toNat_lt;exact Il (by omega) (by omega))
theorem tV {a b:Int} (hx:bI env x=some (.d (cI a))) (hy:bI env y=some (.d (cI b))) (h:b≠0/\-9223372036854775808<=a.tdiv b/\a.tdiv b<=9223372036854775807) :
  az P env st ⟨d,.binOp .quo t x y t2,ty,pos,after,gd⟩ (.d (cI (a.tdiv b))):=CT hx hy h.1 (Il h.2.1 h.2.2)
theorem vW {a b:Int} (hx:bI env x=some (.d (cI a))) (hy:bI env y=some (.d (cI b))) (h:b≠0) :
  az P env st ⟨d,.binOp .rem t x y t2,ty,pos,after,gd⟩ (.d (cI (a.tmod b))):=CU hx hy h rfl
section sl
variable {α:Type} {sz:Nat} {row:α->List D} {l:List α} {ev:EV} {inf:TypeInfo}
theorem dF [Inhabited α] {k:IntKind} {i:Int} (ht:P.underlying t=some (.slice e)) (hi:P.info? e=some inf) (iW:inf.size=sz) (hx:bI env x=some ev) (hs:oa ev=some (sz,l.map row)) (hy:bI env y=some (.d (.ex (.int k i)))) (h:0<=i/\i<l.length) :
  az P env st ⟨d,.indexAddr t x y,ty,pos,after,gd⟩ (.d (.ro (row (nth l i.toNat)))):=PO (n:=i.toNat) ht hi iW hx hs hy (by omega) (xZ (by omega))
theorem ew {a:O uA} {k:IntKind} {i:Int} (ht:P.underlying t=some .string) (hx:bI env x=some (.d (cS a))) (hy:bI env y=some (.d (.ex (.int k i)))) (h:0<=i/\i<a.length) :
  az P env st ⟨d,.index t x y,ty,pos,after,gd⟩ (.d (uW (nth a i.toNat))):=by
 have:=Kb (n:=i.toNat) (st:=st) (d:=d) (ty:=ty) (pos:=pos) (after:=after) (gd:=gd) ht hx hy (by omega) (by omega)
 exact this
theorem PV (ht:P.underlying t=some (.slice e)) (hx:bI env x=some ev) (hs:oa ev=some (sz,l.map row)) :
  az P env st ⟨d,.call ⟨.builtin .len,#[x],#[t]⟩,ty,pos,after,gd⟩ (.d (cI (l.length:Int))):=by
 have:=PQ (st:=st) (d:=d) (ty:=ty) (pos:=pos) (after:=after) (gd:=gd) ht hx hs
 rwa [List.length_map] at this
theorem qR {kl kh:IntKind} {a b:Int} (ht:P.underlying t=some (.slice e)) (hi:P.info? e=some inf) (iW:inf.size=sz) (hx:bI env x=some ev) (hs:oa ev=some (sz,l.map row)) (hy:bI env y=some (.d (.ex (.int kl a)))) (hz:bI env z=some (.d (.ex (.int kh b)))) (h:0<=a/\a<=b/\b<=l.length) :
  az P env st ⟨d,.slice t x (some y) (some z) none,ty,pos,after,gd⟩ (.d (ag sz row ((l.take b.toNat).drop a.toNat))):=by
 have:=PB (st:=st) (d:=d) (ty:=ty) (pos:=pos) (after:=after) (gd:=gd) ht hi iW hx hs hy hz h.1 h.2.1 (by simpa using h.2.2)
 simpa [ag] using this
theorem FN {kh:IntKind} {b:Int} (ht:P.underlying t=some (.slice e)) (hi:P.info? e=some inf) (iW:inf.size=sz) (hx:bI env x=some ev) (hs:oa ev=some (sz,l.map row)) (hz:bI env z=some (.d (.ex (.int kh b)))) (h:0<=b/\b<=l.length) :
  az P env st ⟨d,.slice t x none (some z) none,ty,pos,after,gd⟩ (.d (ag sz row (l.take b.toNat))):=by
 have:=RZ (st:=st) (d:=d) (ty:=ty) (pos:=pos) (after:=after) (gd:=gd) ht hi iW hx hs hz h.1 (by simpa using h.2)
 simpa [ag] using this
theorem ye {kl:IntKind} {a:Int} (ht:P.underlying t=some (.slice e)) (hi:P.info? e=some inf) (iW:inf.size=sz) (hx:bI env x=some ev) (hs:oa ev=some (sz,l.map row)) (hy:bI env y=some (.d (.ex (.int kl a)))) (h:0<=a/\a<=l.length) :
  az P env st ⟨d,.slice t x (some y) none none,ty,pos,after,gd⟩ (.d (ag sz row (l.drop a.toNat))):=by
 have:=R0 (st:=st) (d:=d) (ty:=ty) (pos:=pos) (after:=after) (gd:=gd) ht hi iW hx hs hy h.1 (by simpa using h.2)
 simpa [ag] using this
theorem yf {a:O uA} {kl kh:IntKind} {i j:Int} (ht:P.underlying t=some .string) (hx:bI env x=some (.d (cS a))) (hy:bI env y=some (.d (.ex (.int kl i)))) (hz:bI env z=some (.d (.ex (.int kh j)))) (h:0<=i/\i<=j/\j<=a.length) :
  az P env st ⟨d,.slice t x (some y) (some z) none,ty,pos,after,gd⟩ (.d (cS ((a.take j.toNat).drop i.toNat))):=by
 have:=MK (st:=st) (d:=d) (ty:=ty) (pos:=pos) (after:=after) (gd:=gd) ht hx hy hz h.1 h.2.1 h.2.2
 rwa [←List.drop_take] at this
theorem tW {n b:Nat} (h:n<=1000000000) (hb:b<=100000):n*b<=140737488355328:=Nat.le_trans (Nat.mul_le_mul h hb) (by decide)
theorem Ir {l':O α} {tk:Nat} {z:uB} {w:EV} (ht:P.underlying t=some (.slice e)) (hi:P.info? e=some inf) (hz:inf.zero=some z) (cM:inf.size=sz) (m9:z.cells.size=sz) (hb:inf.bytes<=100000)
  (hx:bI env x=some (.bX sz (l.map row) tk)) (dO:st.al[tk]?=some ⟨e,sz,l.length,none⟩) (hy:bI env y=some w) (hs:oa w=some (sz,l'.map row)) (hn:l.length+l'.length<=1000000000) :
  tQ P base env st ⟨d,.call ⟨.builtin .append,#[x,y],#[t,t]⟩,ty,pos,after,gd⟩ (.bX sz ((l++l').map row) tk) (st.a8 tk ⟨e,sz,(l++l').length,none⟩):=by
 have:=JZ (base:=base) (d:=d) (ty:=ty) (pos:=pos) (after:=after) (gd:=gd) ht hi hz cM m9 hx (by simpa using dO) hy hs (by simpa using tW hn hb) (by simp;omega)
 simpa using this
theorem uX {l a:O uA} {tk:Nat} {z:uB} (ht:P.underlying t=some (.slice e)) (vP:P.underlying t2=some .string) (hi:P.info? e=some inf) (hz:inf.zero=some z) (cM:inf.size=1) (m9:z.cells.size=1) (hb:inf.bytes<=100000)
  (hx:bI env x=some (.bX 1 (l.map cq) tk)) (dO:st.al[tk]?=some ⟨e,1,l.length,none⟩) (hy:bI env y=some (.d (cS a))) (hn:l.length+a.length<=1000000000) :
  tQ P base env st ⟨d,.call ⟨.builtin .append,#[x,y],#[t,t2]⟩,ty,pos,after,gd⟩ (.bX 1 ((l++a).map cq) tk) (st.a8 tk ⟨e,1,(l++a).length,none⟩):=by
 have:=C5 (base:=base) (d:=d) (ty:=ty) (pos:=pos) (after:=after) (gd:=gd) ht vP hi hz cM m9 hx (by simpa using dO) hy (by simpa using tW hn hb) (by simp;omega)
 have e1:dH a=a.map cq:=rfl
 rw[e1] at this
 simpa using this
theorem BH {l':O α} {z:uB} {w:EV} (ht:P.underlying t=some (.slice e)) (hi:P.info? e=some inf) (hz:inf.zero=some z) (cM:inf.size=sz) (m9:z.cells.size=sz) (hb:inf.bytes<=100000)
  (hx:bI env x=some (.d bT)) (hy:bI env y=some w) (hs:oa w=some (sz,l'.map row)) (hn:l'.length<=1000000000) :
  tQ P base env st ⟨d,.call ⟨.builtin .append,#[x,y],#[t,t]⟩,ty,pos,after,gd⟩ (.bX sz (l'.map row) st.al.length) ((st.tok ⟨e,sz,0,none⟩).a8 st.al.length ⟨e,sz,l'.length,none⟩):=by
 have:=C6 (base:=base) (st:=st) (d:=d) (ty:=ty) (pos:=pos) (after:=after) (gd:=gd) ht hi hz cM m9 hx hy hs (by simpa using tW hn hb) (by simp;omega)
 simpa using this
theorem eO {l':O α} {z:uB} {w e0:EV} (ht:P.underlying t=some (.slice e)) (hi:P.info? e=some inf) (hz:inf.zero=some z) (cM:inf.size=sz) (m9:z.cells.size=sz) (hb:inf.bytes<=100000)
  (hx:bI env x=some e0) (h0:e0=.d (.e0 sz)∨e0=.d bT) (hy:bI env y=some w) (hs:oa w=some (sz,l'.map row)) (hn:l'.length<=1000000000) :
  ti P env st ⟨d,.call ⟨.builtin .append,#[x,y],#[t,t]⟩,ty,pos,after,gd⟩ (.d (ag sz row l')) :=
 Ij ht hi hz cM m9 hx h0 hy hs (by simpa using tW hn hb) (by simp;omega)
theorem iu {a:O uA} (hs:P.underlying t=some (.slice e)) (rX:P.underlying e=some (.int .u8)) (hd:P.underlying t2=some .string) (hx:bI env x=some ev) (GZ:oa ev=some (1,a.map cq)) :
  az P env st ⟨d,.convert t t2 x,ty,pos,after,gd⟩ (.d (cS a)):=FL hs rX hd hx GZ
end sl
def Sw (k:IntKind) (a b:Int):Int:=k.wrap (BitVec.ofInt k.bits a &&& BitVec.ofInt k.bits b).toNat
def MV (k:IntKind) (a b:Int):Int:=k.wrap (BitVec.ofInt k.bits a ^^^ BitVec.ofInt k.bits b).toNat
section bits
variable {k:IntKind} {a b:Int} (hx:bI env x=some (.d (.ex (.int k a)))) (hy:bI env y=some (.d (.ex (.int k b))))
include hx hy
theorem Sx:az P env st ⟨d,.binOp .and t x y t2,ty,pos,after,gd⟩ (.d (.ex (.int k (Sw k a b)))):=JG hx hy (.inl rfl) λw=>rfl
theorem Sy:az P env st ⟨d,.binOp .xor t x y t2,ty,pos,after,gd⟩ (.d (.ex (.int k (MV k a b)))):=JG hx hy (.inr (.inr (.inl rfl))) λw=>rfl
end bits
theorem G4 (a:uA):BitVec.ofInt 8 (a.toNat:Int)=a.toBitVec:=by
 apply BitVec.eq_of_toNat_eq
 have:=a.toNat_lt
 simp[BitVec.toNat_ofInt]
theorem UK (n:Nat) (h:n<256):IntKind.u8.wrap (n:Int)=(n:Int):=by
 simp only[IntKind.wrap,IntKind.signed,IntKind.bits]
 simp;omega
section bits8
variable {a b:uA} (hx:bI env x=some (.d (uW a))) (hy:bI env y=some (.d (uW b)))
include hx hy
theorem PW:az P env st ⟨d,.binOp .and t x y t2,ty,pos,after,gd⟩ (.d (uW (a &&& b))):=by
 have h:=Sx (P:=P) (st:=st) (d:=d) (ty:=ty) (pos:=pos) (after:=after) (gd:=gd) (t:=t) (t2:=t2) hx hy
 have e:Sw .u8 a.toNat b.toNat=((a &&& b).toNat:Int):=by
  show IntKind.u8.wrap ((BitVec.ofInt 8 (a.toNat:Int) &&& BitVec.ofInt 8 (b.toNat:Int)).toNat:Int)=_
  rw[G4,G4,UK _ (BitVec.isLt _)];rfl
 rwa [e] at h
end bits8
def np (a:uA) (n:Int):uA:=UInt8.ofNat (a.toNat / 2 ^ (min n.toNat 8))
theorem PX {k:IntKind} {a:uA} {n:Int} (hx:bI env x=some (.d (uW a))) (hy:bI env y=some (.d (.ex (.int k n)))) (h:0<=n) :
  az P env st ⟨d,.binOp .shr t x y t2,ty,pos,after,gd⟩ (.d (uW (np a n))):=RQ hx hy h (by
   show Int.fdiv (a.toNat:Int) (2 ^ (min n.toNat 8))=_
   have h1:=a.toNat_lt
   have h2:=Nat.div_le_self a.toNat (2 ^ (min n.toNat 8))
   rw[Int.fdiv_eq_ediv_of_nonneg _ (Int.le_of_lt (Int.pow_pos (by decide)))]
   unfold np
   rw[UInt8.toNat_ofNat',Nat.mod_eq_of_lt (by omega)]
   norm_cast)
end q
section ret
variable {P:uG} {f:Ctx} {N:Nat} {S:Start} {Q:EV->St->Prop} {k:List Item} {env:Env} {st:St}
theorem ba.bw {id:Nat} {c:Code} {ι:Type} (E:ι->Env) (T:ι->St) (I:ι->Prop)
  (hk:∀ i,I i->ba P f N S Q k (E i) (T i)) (h:(∀ i,I i->ba P f N S Q (.inBlock id::k) (E i) (T i))->(∀ i,I i->ba P f N S Q k (E i) (T i))->ba P f N S Q (.code c::.inBlock id::k) env st) :
  ba P f N S Q (.code (.block id c)::k) env st:=.block (h (λi hi=>.inBlock (hk i hi)) hk)
def OL (P:uG) (env:Env) (st:St):ResultVar->EV->Prop
 | .tmp t,r=>lookup t env=some r
 | .cell a T,r=>(∃ o off,lookup a env=some (.ref o off))/\az P env st ⟨none,.load T (.tmp a),0, "",#[],none⟩ r
def BI (P:uG) (env:Env) (st:St):List ResultVar->List EV->Prop
 | [],[]=>True
 | x::xs,e::es=>OL P env st x e/\BI P env st xs es
 | _,_=>False
def Dl:List EV->EV
 | [r]=>r
 | l=>.dp l
def Dm:List EV->List D->Prop
 | [],[]=>True
 | e::es,x::xs=>dB e (.d x)/\Dm es xs
 | _,_=>False
theorem Dm.get:∀ {es:O EV} {ds:O D},Dm es ds->es.length=ds.length/\∀ (i:Nat) d,ds[i]?=some d->∃ e,es[i]?=some e/\dB e (.d d)
 | [],[],_=>⟨rfl,λi y h=>by simp at h⟩
 | e::es,d::ds,h=>by
  obtain ⟨h1,h2⟩:=Dm.get h.2
  refine ⟨by simp[h1],λi z hz=>?_⟩
  cases i with
  | zero=>simp at hz;subst hz;exact ⟨e,rfl,h.1⟩
  | succ i=>simpa using h2 i z (by simpa using hz)
 | [],_::_,h=>h.elim
 | _::_,[],h=>h.elim
theorem dB.eP {es:O EV} {ds:O D} (h:Dm es ds):dB (.dp es) (.d (.dp ds)):=by
 intro g w st v hv
 obtain ⟨h1,h2⟩:=h.get
 cases hv with
 | dp _ vs hs hc =>
  refine .d _ _ (.dp _ vs (by rw[hs,h1]) λi d u hd hu=>?_)
  obtain ⟨e,he,hle⟩:=h2 i d hd
  cases hle _ _ _ _ (hc i e u he hu) with|d _ _ h=>exact h
def Dn (tmps:uD uB):ResultVar->Sem uB
 | .tmp t=>pure (tmps.getD t undef)
 | .cell a t=>do loadVar t (←asAddr (tmps.getD a undef))
theorem MW {g:br} {w:uC} {base:Nat} {tmps:uD uB} (hi:Inv g base w st) (he:cJ g w st env tmps) {x:ResultVar} {e:EV} (h:OL P env st x e) :
  ∃ v,(Dn tmps x).run P w=.ok v w/\bm g w st e v:=by
 cases x with
 | tmp t =>
  obtain ⟨v,h1,h2⟩:=he t e h
  exact ⟨v,by simp[Dn,Array.getD_eq_getD_getElem?,h1],h2⟩
 | cell a T =>
  obtain ⟨⟨o,off,hx⟩,hq⟩:=h
  obtain ⟨v,h1,h2⟩:=hq g base w tmps hi he
  have h3:=h2 w (.refl _ _)
  obtain ⟨pv,h4,h5⟩:=he a _ hx
  have h6:(Act.eval ⟨tmps,[]⟩ (.tmp a))=pv:=by
   show tmps.getD a undef=pv
   rw[Array.getD_eq_getD_getElem?,h4];rfl
  refine ⟨v,?_,h1⟩
  cases h5 with
  | ref _ _ cd =>
   simp only[execOp,h6,Instr.loadAt,Instr.sureAddr,Sem.run_bind] at h3
   simp only[Dn]
   simp[Array.getD_eq_getD_getElem?,h4,asAddr]
   simp at h3
   generalize (Sem.run P (loadVar T { block:=g.ob o,off:=off }) w)=res at h3 ⊢
   cases res with
   | ok x w2=>simp[Result.andThen_ok] at h3;simp[h3]
   | halt h w2=>simp[Result.andThen] at h3
theorem G5 {g:br} {w:uC} {base:Nat} {tmps:uD uB} (hi:Inv g base w st) (he:cJ g w st env tmps):∀ {xs:O ResultVar} {es:O EV},BI P env st xs es ->
  ∃ vs:O uB,(xs.mapM (Dn tmps)).run P w=.ok vs w/\vs.length=es.length/\∀ (i:Nat) e v,es[i]?=some e->vs[i]?=some v->bm g w st e v
 | [],[],_=>⟨[],by simp,rfl,by simp⟩
 | x::xs,e::es,h=>by
  obtain ⟨v,h1,h2⟩:=MW hi he h.1
  obtain ⟨vs,k1,k2,k3⟩:=G5 hi he h.2
  refine ⟨v::vs,by simp[h1,k1],by simp[k2],λi e' v' rX J1=>?_⟩
  cases i with
  | zero=>simp at rX J1;subst rX;subst J1;exact h2
  | succ i=>exact k3 i e' v' (by simpa using rX) (by simpa using J1)
 | [],_::_,h=>h.elim
 | _::_,[],h=>h.elim
theorem ba.Sz {f:FuncId} {fn:Func} (xs:List ResultVar) (es:List EV) (hf:P.funcs[f]?=some fn) (hr:fn.results=xs.toArray) (h:BI P env st xs es) (hQ:Q (Dl es) st):ba P (.of f) N S Q (.code .ret::k) env st:=by
 intro g w tmps hi hh he hn
 obtain ⟨vs,h1,h2,h3⟩:=G5 hi he h
 have r7:(results fn tmps).run P w=.ok (if h:vs.toArray.size=1 then vs.toArray[0] else .tuple vs.toArray) w:=by
  have UL:(results fn tmps)=(do let vs ←fn.results.mapM (Dn tmps);pure (if h:vs.size=1 then vs[0] else .tuple vs)):=by
   unfold results
   congr 1
  rw[UL,hr,List.mapM_toArray]
  simp only[Sem.run_bind,Sem.run_map,h1,Result.andThen_ok,Sem.run_pure]
 refine dv.ret hf r7 ⟨_,Dl es,st,g,rfl,hQ,?_,hi,hh⟩
 by_cases hl:vs.toArray.size=1
 ·rw[dif_pos hl]
  match vs,es,h2,hl,h3 with
  | [v],[e],_,_,h3=>exact h3 0 e v rfl rfl
  | [],_,_,hl,_=>simp at hl
  | _::_::_,_,_,hl,_=>simp at hl
 ·rw[dif_neg hl]
  have UM:Dl es=.dp es:=by
   match es,h2 with
   | [],_=>rfl
   | [e],h2=>exact absurd (by simpa using h2) hl
   | _::_::_,_=>rfl
  rw[UM]
  exact .dp es vs.toArray (by simpa using h2) λi c u hc hu=>h3 i c u hc (by simpa using hu)
end ret
section b
variable {P:uG} {env:Env} {st:St} {d:Option Tmp} {ty:uE} {pos:String} {after:uD Edge} {gd:Option (Nat×Bool)} {t t2 e:uE} {x y z:uH}
theorem pB {n sz:Nat} {inf:TypeInfo} {z:uB} {zs:O D} {rows:O (O D)} {l:O (Nat×uH)} (ht:P.underlying t=some (.slice e)) (hi:P.info? e=some inf) (iW:inf.size=sz) (hz:inf.zero=some z) (m9:Nat.beq z.cells.size sz=true)
  (FG:(Nat.ble (n*sz) 16777216 && Nat.blt 0 n && Nat.blt 0 sz)=true) (Mw:cellsD (.d (cv z))=some zs) (hl:zY (λi=>some (i*sz,sz)) env (List.replicate n zs).flatten l=some rows.flatten)
  (hr:(rows.all (λr=>Nat.beq r.length sz) && Nat.beq rows.length n)=true) :
  ti P env st ⟨d,.buildSlice t n l.toArray,ty,pos,after,gd⟩ (.d (.sl sz rows)):=by
 simp only[Bool.and_eq_true] at FG hr
 have MR:=Nat.eq_of_beq_eq_true m9
 have Rr:zs.length=sz:=by
  have:=(j4 (g:=⟨λ_=>0,λ_=>0,λ_=>.nilFunc⟩) (w:=(default:uC)) (st:=⟨[],[]⟩) Mw (.d _ _ (qG _ _ z))).1
  omega
 exact uS ht hi iW hz MR (gj FG.1.2) (Nat.le_of_ble_eq_true FG.1.1) (by simp[Rr]) Mw hl hr.1 (Nat.eq_of_beq_eq_true hr.2) (gj FG.2)
theorem cC {a b:Bool} (hx:bI env x=some (.d (cB a))) (hy:bI env y=some (.gd a (.d (cB b)))) (hz:bI env z=some (.d (cB false))) :
  az P env st ⟨d,.pick x y z,ty,pos,after,gd⟩ (.d (cB (a && b))):=by
 have:=H7 (P:=P) (st:=st) (d:=d) (ty:=ty) (pos:=pos) (after:=after) (gd:=gd) hx hy hz
 rwa [show (if a=true then b else false)=(a && b) from by cases a<;>rfl] at this
theorem s7 {a b:Bool} (hx:bI env x=some (.d (cB a))) (hy:bI env y=some (.d (cB true))) (hz:bI env z=some (.gd (!a) (.d (cB b)))) :
  az P env st ⟨d,.pick x y z,ty,pos,after,gd⟩ (.d (cB (a || b))):=by
 have:=JJ (P:=P) (st:=st) (d:=d) (ty:=ty) (pos:=pos) (after:=after) (gd:=gd) hx hy hz
 rwa [show (if a=true then true else b)=(a || b) from by cases a<;>rfl] at this
end b
def df (rs:List Nat) (N i:Nat):Nat:=match rs[i]? with
 | some r=>r
 | none=>N+(i-rs.length)
structure G6 (rs:List Nat) (N:Nat):Prop where
 lt:∀ r,r∈rs->r<N
 inj:∀ (i j:Nat) (r:Nat),rs[i]?=some r->rs[j]?=some r->i=j
theorem vX {rs:O Nat} {N i:Nat} (h:G6 rs N) (hi:i<rs.length):df rs N i<N/\rs[i]?=some (df rs N i):=by
 have e:rs[i]?=some rs[i]:=List.getElem?_eq_getElem hi
 unfold df
 rw[e]
 exact ⟨h.lt _ (List.getElem_mem hi),rfl⟩
theorem tX {rs:O Nat} {N i:Nat} (hi:rs.length<=i):df rs N i=N+(i-rs.length):=by
 unfold df
 rw[List.getElem?_eq_none hi]
theorem BJ {rs:O Nat} {N i j:Nat} (h:G6 rs N) (e:df rs N i=df rs N j):i=j:=by
 by_cases hi:i<rs.length<;>by_cases hj:j<rs.length
 ·obtain ⟨_,h1⟩:=vX h hi
  obtain ⟨_,h2⟩:=vX h hj
  rw[e] at h1
  exact h.inj i j _ h1 h2
 ·obtain ⟨h1,_⟩:=vX h hi
  rw[tX (i:=j) (by omega)] at e
  omega
 ·obtain ⟨h1,_⟩:=vX h hj
  rw[tX (i:=i) (by omega)] at e
  omega
 ·rw[tX (i:=i) (by omega),tX (i:=j) (by omega)] at e
  omega
open Classical in
noncomputable def eM (rs:List Nat) (N o:Nat):Option Nat:=if h:∃ i,df rs N i=o then some h.choose else none
theorem xn {rs:O Nat} {N:Nat} (h:G6 rs N) (i:Nat):eM rs N (df rs N i)=some i:=by
 have hex:∃ j,df rs N j=df rs N i:=⟨i,rfl⟩
 unfold eM
 rw[dif_pos hex]
 congr 1
 exact BJ h hex.choose_spec
theorem yg {rs:O Nat} {N o i:Nat} (e:eM rs N o=some i):df rs N i=o:=by
 unfold eM at e
 split at e
 ·rename_i hex
  cases e
  exact hex.choose_spec
 ·cases e
theorem Dp {rs:O Nat} {N o:Nat} (e:eM rs N o=none):o<N/\∀ i,df rs N i≠o:=by
 unfold eM at e
 split at e
 ·cases e
 ·rename_i hex
  refine ⟨?_,λi hi=>hex ⟨i,hi⟩⟩
  false_or_by_contra
  rename_i cd
  exact hex ⟨rs.length+(o-N),by rw[tX (by omega)];omega⟩
theorem AF {rs:O Nat} {N o i:Nat} (h:G6 rs N) (e:eM rs N o=some i) (ho:o<N):i<rs.length:=by
 have:=yg e
 false_or_by_contra
 rw[tX (by omega)] at this
 omega
def gm {α:Type}:List α->List Nat->List α->List α
 | l,r::rs,x::xs=>gm (l.set r x) rs xs
 | l,_,xs=>l++xs
theorem tY {α:Type}:∀ (rs:O Nat) (l xs:O α),rs.length<=xs.length->(gm l rs xs).length=l.length+(xs.length-rs.length)
 | [],l,xs,_=>by simp[gm]
 | r::rs,l,[],h=>by simp at h
 | r::rs,l,x::xs,h=>by
  simp only[gm]
  rw[tY rs _ xs (by simpa using h)]
  simp
theorem nw {α:Type}:∀ (rs:O Nat) (l xs:O α) (o:Nat),o<l.length->o ∉ rs->(gm l rs xs)[o]?=l[o]?
 | [],l,xs,o,ho,_=>by simp[gm,List.getElem?_append_left ho]
 | r::rs,l,[],o,ho,_=>by simp[gm]
 | r::rs,l,x::xs,o,ho,hn=>by
  simp only[gm]
  simp only[List.mem_cons,not_or] at hn
  rw[nw rs _ xs o (by simpa using ho) hn.2,List.getElem?_set,if_neg (Ne.symm hn.1)]
theorem tZ {α:Type}:∀ (rs:O Nat) (l xs:O α) (N:Nat),l.length=N->G6 rs N->rs.length<=xs.length->∀ i,(gm l rs xs)[df rs N i]?=xs[i]?
 | [],l,xs,N,hN,_,_,i=>by
  rw[tX (by simp)]
  simp only[gm,List.length_nil,Nat.sub_zero,←hN]
  rw[List.getElem?_append_right (by omega)]
  simp
 | r::rs,l,[],N,hN,_,h,i=>by simp at h
 | r::rs,l,x::xs,N,hN,he,h,i=>by
  have rX:G6 rs N:=⟨λr hr=>he.lt r (by simp[hr]),λi j r a b=>by
   have:=he.inj (i+1) (j+1) r (by simpa using a) (by simpa using b)
   omega⟩
  have hr:r<N:=he.lt r (by simp)
  have Xb:r ∉ rs:=λhm=>by
   obtain ⟨j,hj⟩:=List.mem_iff_getElem?.1 hm
   have:=he.inj 0 (j+1) r (by simp) (by simpa using hj)
   omega
  simp only[gm]
  cases i with
  | zero =>
   have:df (r::rs) N 0=r:=by simp[df]
   rw[this,nw rs _ xs r (by simpa [hN] using hr) Xb]
   simp[List.getElem?_set,hN,hr]
  | succ i =>
   have:df (r::rs) N (i+1)=df rs N i:=by
    unfold df
    simp only[List.getElem?_cons_succ,List.length_cons]
    split
    ·rfl
    ·omega
   rw[this,tZ rs _ xs N (by simpa using hN) rX (by simpa using h) i]
   simp
def Is (rs:List Nat) (N:Nat):Bool:=rs.all (λr=>Nat.blt r N) && BK rs
where BK:List Nat->Bool
 | []=>true
 | r::rs=>rs.all (λx=>!Nat.beq x r) && BK rs
theorem G6.of {rs:O Nat} {N:Nat} (h:Is rs N=true):G6 rs N:=by
 simp only[Is,Bool.and_eq_true,List.all_eq_true] at h
 refine ⟨λr hr=>gj (h.1 r hr),?_⟩
 have key:∀ (l:O Nat),Is.BK l=true->∀ (i j:Nat) (r:Nat),l[i]?=some r->l[j]?=some r->i=j:=by
  intro l
  induction l with
  | nil=>intro _ i j r hi;simp at hi
  | cons x l ih =>
   intro hn i j r hi hj
   simp only[Is.BK,Bool.and_eq_true,List.all_eq_true] at hn
   cases i with
   | zero =>
    cases j with
    | zero=>rfl
    | succ j =>
     simp at hi hj
     subst hi
     have:=hn.1 x (List.mem_of_getElem? hj)
     simp at this
   | succ i =>
    cases j with
    | zero =>
     simp at hi hj
     subst hj
     have:=hn.1 x (List.mem_of_getElem? hi)
     simp at this
    | succ j =>
     have:=ih hn.2 i j r (by simpa using hi) (by simpa using hj)
     omega
 exact key rs h.2
section ren
def EV.ren (ρ τ:Nat->Nat):EV->EV
 | .d x=>.d x
 | .ref o off=>.ref (ρ o) off
 | .wW o off n c=>.wW (ρ o) off n c
 | .bX sz rows t=>.bX sz rows (τ t)
 | .mp o=>.mp (ρ o)
 | .vc t k=>.vc (τ t) k
 | .vp t k i off=>.vp (τ t) k i off
 | .vw t k lo n=>.vw (τ t) k lo n
 | .xj f cs=>.xj f (BL ρ τ cs)
 | .agg cs=>.agg (BL ρ τ cs)
 | .dp cs=>.dp (BL ρ τ cs)
 | .gd b x=>.gd b (EV.ren ρ τ x)
where
 BL (ρ τ:Nat->Nat):List EV->List EV
 | []=>[]
 | x::l=>EV.ren ρ τ x::BL ρ τ l
theorem jz (ρ τ:Nat->Nat):∀ l:O EV,EV.ren.BL ρ τ l=l.map (EV.ren ρ τ)
 | []=>rfl
 | x::l=>by simp[EV.ren.BL,jz ρ τ l]
def fm.ren (ρ τ:Nat->Nat):fm->fm
 | .row ty cs=>.row ty (EV.ren.BL ρ τ cs)
 | .map es=>.map (es.map λp=>(p.1,p.2.ren ρ τ))
 | .raw x=>.raw x
 | .gone=>.gone
theorem fm.Ki {ρ τ:Nat->Nat} {x:fm} (h:x.ren ρ τ=.gone):x=.gone:=by cases x<;>first|rfl|cases h
def br.sub (g:br) (ρ τ:Nat->Nat):br:=⟨g.bl,λo=>g.ob (ρ o),λt=>g.tk (τ t)⟩
variable {ρ τ:Nat->Nat} {g g':br} {w:uC} {s0 st:St}
theorem bm.down (ht:∀ t x,s0.al[t]?=some x->st.al[τ t]?=some x):∀ {x:EV} {v:uB},na s0.aR.length s0.al.length x=true->bm g w st (x.ren ρ τ) v->bm (g.sub ρ τ) w s0 x v:=by
 have uY:∀ {t:Nat},t<s0.al.length->∀ {x:fZ},st.al[τ t]?=some x->s0.al[t]?=some x:=fun {t} cd {x} hx=>by
  have h1:=ht t _ (List.getElem?_eq_getElem cd)
  rw[hx] at h1
  cases h1
  exact List.getElem?_eq_getElem cd
 have main:∀ {y:EV} {v:uB},bm g w st y v->∀ x:EV,na s0.aR.length s0.al.length x=true->y=x.ren ρ τ->bm (g.sub ρ τ) w s0 x v:=by
  intro y v h
  induction h with
  | d a v h =>
   intro x hx e
   cases x<;>simp only[EV.ren] at e<;>cases e
   exact .d _ _ h
  | ref o off h =>
   intro x hx e
   cases x<;>simp only[EV.ren] at e<;>cases e
   exact .ref (g:=g.sub ρ τ) _ _ (gj hx)
  | wW o off n c h =>
   intro x hx e
   cases x<;>simp only[EV.ren] at e<;>cases e
   exact .wW (g:=g.sub ρ τ) _ _ _ _ (gj hx)
  | bX sz rows t v el n hd nO hn hv =>
   intro x hx e
   cases x<;>simp only[EV.ren] at e<;>cases e
   exact .bX sz rows _ v el n hd (uY (gj hx) nO) hn hv
  | mp o h =>
   intro x hx e
   cases x<;>simp only[EV.ren] at e<;>cases e
   exact .mp (g:=g.sub ρ τ) _ (gj hx)
  | xj f cs vs hs h ih =>
   intro x hx e
   cases x<;>simp only[EV.ren] at e<;>cases e
   rename_i ds
   simp only[na] at hx
   rw[jz] at hs ih
   refine .xj f _ vs (by simpa using hs) λi c u hc hu=>ih i (c.ren ρ τ) u (by rw[List.getElem?_map,hc];rfl) hu c (lK hx i c hc) rfl
  | agg cs vs hs h1 h ih =>
   intro x hx e
   cases x<;>simp only[EV.ren] at e<;>cases e
   simp only[na] at hx
   rw[jz] at hs ih
   refine .agg _ vs (by simpa using hs) h1 λi c u hc hu=>ih i (c.ren ρ τ) u (by rw[List.getElem?_map,hc];rfl) hu c (lK hx i c hc) rfl
  | dp cs vs hs h ih =>
   intro x hx e
   cases x<;>simp only[EV.ren] at e<;>cases e
   simp only[na] at hx
   rw[jz] at hs ih
   refine .dp _ vs (by simpa using hs) λi c u hc hu=>ih i (c.ren ρ τ) u (by rw[List.getElem?_map,hc];rfl) hu c (lK hx i c hc) rfl
  | gd b a v h0 h ih =>
   intro x hx e
   cases x<;>simp only[EV.ren] at e<;>cases e
   simp only[na] at hx
   exact .gd _ _ v h0 λhb=>ih hb _ hx rfl
  | vc t k v nO hf h =>
   intro x hx e
   cases x<;>simp only[EV.ren] at e<;>cases e
   exact .vc _ _ v (gj hx) hf λx rows hy=>h x rows (ht _ _ hy)
  | vp t k i off v nO hf h =>
   intro x hx e
   cases x<;>simp only[EV.ren] at e<;>cases e
   exact .vp _ _ _ _ v (gj hx) hf λx rows hy=>h x rows (ht _ _ hy)
  | vw t k lo n v nO hf h =>
   intro x hx e
   cases x<;>simp only[EV.ren] at e<;>cases e
   exact .vw _ _ _ _ v (gj hx) hf λx rows hy=>h x rows (ht _ _ hy)
 intro x v hx h
 exact main h x hx rfl
theorem bm.up {g1:br} {s1:St} (zO:∀ o,o<s1.aR.length->g'.ob (ρ o)=g1.ob o/\ρ o<st.aR.length) (tR:g'.bl=g1.bl)
  (ht:∀ t,t<s1.al.length->st.al[τ t]?=s1.al[t]?/\g'.tk (τ t)=g1.tk t) {x:EV} {v:uB} (h:bm g1 w s1 x v):bm g' w st (x.ren ρ τ) v:=by
 have cd:∀ {t:Nat},t<s1.al.length->τ t<st.al.length:=fun {t} h=>by
  have h1:=(ht t h).1
  rw[List.getElem?_eq_getElem h] at h1
  exact (List.getElem?_eq_some_iff.1 h1).1
 induction h with
 | d a v h=>exact .d _ _ (by rw[tR];exact h)
 | ref o off h=>rw[←(zO o h).1];exact .ref _ _ (zO o h).2
 | wW o off n c h=>rw[←(zO o h).1];exact .wW _ _ _ _ (zO o h).2
 | bX sz rows t v el n hd nO hn hv =>
  have hl:=(List.getElem?_eq_some_iff.1 nO).1
  exact .bX sz rows _ v el n (by rw[tR];exact hd) (by rw[(ht t hl).1];exact nO) hn (by rw[(ht t hl).2];exact hv)
 | mp o h=>rw[←(zO o h).1];exact .mp _ (zO o h).2
 | xj f cs vs hs h ih =>
  simp only[EV.ren,jz]
  refine .xj f _ vs (by simpa using hs) λi c u hc hu=>?_
  rw[List.getElem?_map] at hc
  obtain ⟨c',h1,rfl⟩:=Option.map_eq_some_iff.1 hc
  exact ih i c' u h1 hu
 | agg cs vs hs h1 h ih =>
  simp only[EV.ren,jz]
  refine .agg _ vs (by simpa using hs) h1 λi c u hc hu=>?_
  rw[List.getElem?_map] at hc
  obtain ⟨c',h1,rfl⟩:=Option.map_eq_some_iff.1 hc
  exact ih i c' u h1 hu
 | dp cs vs hs h ih =>
  simp only[EV.ren,jz]
  refine .dp _ vs (by simpa using hs) λi c u hc hu=>?_
  rw[List.getElem?_map] at hc
  obtain ⟨c',h1,rfl⟩:=Option.map_eq_some_iff.1 hc
  exact ih i c' u h1 hu
 | gd b a v h0 h ih=>exact .gd _ _ v h0 ih
 | vc t k v nO hf h=>exact .vc _ _ v (cd nO) hf λx rows hx=>by rw[(ht t nO).1] at hx;rw[(ht t nO).2];exact h x rows hx
 | vp t k i off v nO hf h=>exact .vp _ _ _ _ v (cd nO) hf λx rows hx=>by rw[(ht t nO).1] at hx;rw[(ht t nO).2];exact h x rows hx
 | vw t k lo n v nO hf h=>exact .vw _ _ _ _ v (cd nO) hf λx rows hx=>by rw[(ht t nO).1] at hx;rw[(ht t nO).2];exact h x rows hx
structure Part (ρ τ:Nat->Nat) (s0 st:St):Prop where
 aR:∀ (o:Nat) (x:fm),s0.aR[o]?=some x->st.aR[ρ o]?=some (x.ren ρ τ)
 al:∀ (t:Nat) (x:fZ),s0.al[t]?=some x->st.al[τ t]?=some x
 UN:∀ o o',ρ o=ρ o'->o=o'
 UO:∀ t t',τ t=τ t'->t=t'
 ok:∀ (o:Nat) (x:fm),s0.aR[o]?=some x->kq s0.aR.length s0.al.length x=true
theorem Part.live (h:Part ρ τ s0 st) {o:Nat} (hl:s0.live o):st.live (ρ o):=by
 obtain ⟨x,hx,dq⟩:=hl
 exact ⟨_,h.aR o x hx,λe=>dq (fm.Ki e)⟩
theorem Part.owned (h:Part ρ τ s0 st) {b:Nat} (ho:o7 (g.sub ρ τ) s0 b):o7 g st b:=by
 rcases ho with ⟨o,h1,h2⟩|⟨t,x,h1,h2⟩
 ·exact .inl ⟨ρ o,h.live h1,h2⟩
 ·exact .inr ⟨τ t,x,h.al t x h1,h2⟩
theorem Inv.part {base:Nat} (h:Inv g base w st) (p:Part ρ τ s0 st):Inv (g.sub ρ τ) base w s0:=by
 refine ⟨h.base,λo ty cs hx=>?_,λo es hx=>?_,λo y hx=>h.raw (ρ o) y (p.aR o _ hx),λo o' dq h1 h2=>h.ne _ _ (λe=>dq (p.UN o o' e)) (p.live h1) (p.live h2),λt e sz n hx=>h.tail (τ t) e sz n (p.al t _ hx),
  λt t' x x' b dq h1 h2=>h.km _ _ x x' b (λe=>dq (p.UO t t' e)) (p.al t _ h1) (p.al t' _ h2),λt x o h1 h2=>h.eD _ x _ (p.al t _ h1) (p.live h2),h.xJ,λt e sz n rows hx=>h.own (τ t) e sz n rows (p.al t _ hx)⟩
 ·have ho:=p.ok o _ hx
  simp only[kq,List.all_eq_true] at ho
  have g4:=p.aR o _ hx
  simp only[fm.ren,jz] at g4
  obtain ⟨h1,h2,vs,h3,h4,h5⟩:=h.row (ρ o) ty _ g4
  refine ⟨h1,h2,vs,h3,by simpa using h4,λi c u hc hu=>?_⟩
  have:=h5 i (c.ren ρ τ) u (by rw[List.getElem?_map,hc];rfl) hu
  exact ⟨this.1.down p.al (ho c (List.mem_of_getElem? hc)),this.2⟩
 ·have ho:=p.ok o _ hx
  simp only[kq,List.all_eq_true] at ho
  have g4:=p.aR o _ hx
  simp only[fm.ren] at g4
  obtain ⟨h1,ms,c,h3,h4,h5,h6⟩:=h.map (ρ o) _ g4
  refine ⟨h1,ms,c,h3,by simpa using h4,λi k x m hm wF=>?_,h6⟩
  have:=h5 i k (x.ren ρ τ) m (by rw[List.getElem?_map,hm];rfl) wF
  exact ⟨this.1,this.2.down p.al (ho (k,x) (List.mem_of_getElem? hm))⟩
end ren
def kr (st s1:St) (rs ts:List Nat):St :=
 ⟨gm st.aR rs (s1.aR.map (fm.ren (df rs st.aR.length) (df ts st.al.length))),gm st.al ts s1.al⟩
theorem Inv.It {g g1:br} {w w1:uC} {base:Nat} {st s0 s1:St} {rs ts:List Nat} (h:Inv g base w st) (hr:G6 rs st.aR.length) (ht:G6 ts st.al.length)
  (We:rs.length=s0.aR.length) (cd:ts.length=s0.al.length)
  (p:Part (df rs st.aR.length) (df ts st.al.length) s0 st) (h1:Inv g1 base w1 s1) (hs:Step base (g.sub (df rs st.aR.length) (df ts st.al.length)) w s0 g1 w1 s1) :
  ∃ g',Inv g' base w1 (kr st s1 rs ts)/\Step base g w st g' w1 (kr st s1 rs ts) /\
   ∀ x v,bm g1 w1 s1 x v->bm g' w1 (kr st s1 rs ts) (x.ren (df rs st.aR.length) (df ts st.al.length)) v:=by
 have T0:rs.length<=s1.aR.length:=by rw[We];exact hs.du.aR
 have T1:ts.length<=s1.al.length:=by rw[cd];exact hs.du.Fu
 generalize hN:st.aR.length=N at *
 generalize hM:st.al.length=M at *
 generalize hρ:df rs N=ρ at *
 generalize hτ:df ts M=τ at *
 have UP:kr st s1 rs ts=⟨gm st.aR rs (s1.aR.map (fm.ren ρ τ)),gm st.al ts s1.al⟩:=by unfold kr;rw[hN,hM,hρ,hτ]
 rw[UP]
 generalize hS:(⟨gm st.aR rs (s1.aR.map (fm.ren ρ τ)),gm st.al ts s1.al⟩:St)=S
 have SA:∀ i,S.aR[ρ i]?=(s1.aR[i]?).map (fm.ren ρ τ):=λi=>by
  rw[←hS,←hρ]
  simp only
  rw[tZ rs _ _ N hN hr (by simpa using T0) i,List.getElem?_map,hρ]
 have MX:∀ i,S.al[τ i]?=s1.al[i]?:=λi=>by
  rw[←hS,←hτ]
  exact tZ ts _ _ M hM ht T1 i
 have MY:∀ o,eM rs N o=none->S.aR[o]?=st.aR[o]?:=λo ho=>by
  obtain ⟨k1,k2⟩:=Dp ho
  rw[←hS]
  exact nw rs _ _ o (by rw[hN];exact k1) λhm=>by
   obtain ⟨j,hj⟩:=List.mem_iff_getElem?.1 hm
   refine k2 j ?_
   simp[df,hj]
 have BM:∀ t,eM ts M t=none->S.al[t]?=st.al[t]?:=λt ho=>by
  obtain ⟨k1,k2⟩:=Dp ho
  rw[←hS]
  exact nw ts _ _ t (by rw[hM];exact k1) λhm=>by
   obtain ⟨j,hj⟩:=List.mem_iff_getElem?.1 hm
   refine k2 j ?_
   simp[df,hj]
 have Xc:N<=S.aR.length:=by rw[←hS,←hN];show _<=(gm _ _ _).length;rw[tY rs _ _ (by simpa using T0)];omega
 have UQ:M<=S.al.length:=by rw[←hS,←hM];show _<=(gm _ _ _).length;rw[tY ts _ _ T1];omega
 let g':br:=⟨g1.bl,λo=>match eM rs N o with|some i=>g1.ob i|none=>g.ob o,λt=>match eM ts M t with|some i=>g1.tk i|none=>g.tk t⟩
 have Kj:∀ i,g'.ob (ρ i)=g1.ob i:=λi=>by
  show (match eM rs N (ρ i) with|some i=>g1.ob i|none=>g.ob (ρ i))=_
  rw[←hρ,xn hr i]
 have Mz:∀ i,g'.tk (τ i)=g1.tk i:=λi=>by
  show (match eM ts M (τ i) with|some i=>g1.tk i|none=>g.tk (τ i))=_
  rw[←hτ,xn ht i]
 have z8:∀ o,eM rs N o=none->g'.ob o=g.ob o:=λo ho=>by
  show (match eM rs N o with|some i=>g1.ob i|none=>g.ob o)=_
  rw[ho]
 have BN:∀ t,eM ts M t=none->g'.tk t=g.tk t:=λt ho=>by
  show (match eM ts M t with|some i=>g1.tk i|none=>g.tk t)=_
  rw[ho]
 have yh:∀ {o i:Nat},eM rs N o=some i->o=ρ i:=fun {o i} e=>by rw[←hρ];exact (yg e).symm
 have BO:∀ {t i:Nat},eM ts M t=some i->t=τ i:=fun {t i} e=>by rw[←hτ];exact (yg e).symm
 have up:∀ {x:EV} {v:uB},bm g1 w1 s1 x v->bm g' w1 S (x.ren ρ τ) v:=fun {x v} hx=>by
  refine bm.up (λo ho=>⟨Kj o,?_⟩) rfl (λt ht=>⟨MX t,Mz t⟩) hx
  have e:=SA o
  rw[List.getElem?_eq_getElem ho] at e
  exact (List.getElem?_eq_some_iff.1 e).1
 -- what the call does not own
 have Dq:∀ b,b<w.heap.size->¬ o7 (g.sub ρ τ) s0 b->w1.heap[b]?=w.heap[b]?/\g1.bl b=g.bl b:=hs.frame
 have AG:∀ b,b<w.heap.size->o7 g1 s1 b->o7 (g.sub ρ τ) s0 b:=hs.fresh
 have uo:∀ o,eM rs N o=none->st.live o->g.ob o<w.heap.size/\¬ o7 (g.sub ρ τ) s0 (g.ob o):=λo ho hl=>by
  refine ⟨(h.qI hl).1,λhw=>?_⟩
  rcases hw with ⟨i,a1,a2⟩|⟨t,x,a1,a2⟩
  ·have dq:ρ i≠o:=λe=>by rw[←e,←hρ,xn hr i] at ho;cases ho
   exact h.ne _ _ dq (p.live a1) hl a2
  ·exact h.eD _ x o (p.al t x a1) hl a2
 have ut:∀ t x b,eM ts M t=none->st.al[t]?=some x->(g.tk t).ownBlock=some b->b<w.heap.size/\¬ o7 (g.sub ρ τ) s0 b:=λt x b ho hx hb=>by
  refine ⟨(h.qF hx hb).2,λhw=>?_⟩
  rcases hw with ⟨i,a1,a2⟩|⟨i,y,a1,a2⟩
  ·exact h.eD t x _ hx (p.live a1) (by rw[hb];exact congrArg some a2.symm)
  ·have dq:τ i≠t:=λe=>by rw[←e,←hτ,xn ht i] at ho;cases ho
   exact h.km _ _ y x b dq (p.al i y a1) hx a2 hb
 have Xd:∀ {o i:Nat},eM rs N o=some i->o<N->i<s0.aR.length:=fun {o i} e ho=>by rw[←We];exact AF hr e ho
 have Wf:∀ {t i:Nat},eM ts M t=some i->t<M->i<s0.al.length:=fun {t i} e ho=>by rw[←cd];exact AF ht e ho
 have PY:∀ {i:Nat},i<s0.al.length->∀ {x:fZ},st.al[τ i]?=some x->s0.al[i]?=some x:=fun {i} hi {x} hx=>by
  have e:=p.al i _ (List.getElem?_eq_getElem hi)
  rw[hx] at e
  cases e
  exact List.getElem?_eq_getElem hi
 have MZ:qE g w st g' w1 S:=by
  refine ⟨hs.du.bI,λo ho=>?_,by rw[hN];exact Xc,λt e sz n hx=>?_,by rw[hM];exact UQ,λt x' aY jv hx ho=>?_⟩
  ·cases hi:eM rs N o with
   | none=>exact z8 o hi
   | some i =>
    have:=yh hi
    subst this
    rw[Kj,hs.du.ob i (Xd hi (by omega))]
    rfl
  ·cases hi:eM ts M t with
   | none=>exact ⟨n,by rw[BM t hi];exact hx,Nat.le_refl _,λ_=>BN t hi⟩
   | some i =>
    have:=BO hi
    subst this
    have om:=Wf hi (by rw[←hM];exact (List.getElem?_eq_some_iff.1 hx).1)
    obtain ⟨n',a1,a2,a3⟩:=hs.du.al i e sz n (PY om hx)
    exact ⟨n',by rw[MX];exact a1,a2,λe'=>by rw[Mz,a3 e'];rfl⟩
  ·cases hi:eM ts M t with
   | none =>
    rw[BM t hi] at hx
    exact ⟨x',aY,hx,ho,rfl,Nat.le_refl _,λ_=>BN t hi⟩
   | some i =>
    have:=BO hi
    subst this
    have om:=Wf hi (by omega)
    rw[MX] at hx
    obtain ⟨x,rows,a1,a2,a3,a4,a5⟩:=hs.du.own i x' aY om hx ho
    exact ⟨x,rows,p.al i x a1,a2,a3,a4,λe'=>by rw[Mz,a5 e'];rfl⟩
 have jx:∀ {o i:Nat},eM rs N o=some i->S.live o->s1.live i:=fun {o i} hi ⟨x,hx,dq⟩=>by
  have:=yh hi
  subst this
  rw[SA] at hx
  obtain ⟨y,hy,rfl⟩:=Option.map_eq_some_iff.1 hx
  exact ⟨y,hy,λe=>dq (by subst e;rfl)⟩
 have vY:∀ {o:Nat},eM rs N o=none->S.live o->st.live o:=fun {o} hi ⟨x,hx,dq⟩=>⟨x,by rw[MY o hi] at hx;exact hx,dq⟩
 refine ⟨g',⟨h1.base,?_,?_,?_,?_,?_,?_,?_,h1.xJ,?_⟩,⟨MZ,hs.below,hs.bl,λb hb hn=>Dq b hb λhw=>hn (p.owned hw),λb hb hw=>?_⟩,λx v hx=>up hx⟩
 ·intro o ty cs hx
  cases hi:eM rs N o with
  | none =>
   rw[MY o hi] at hx
   obtain ⟨k1,k2,vs,k3,k4,k5⟩:=h.row o ty cs hx
   obtain ⟨u1,u2⟩:=uo o hi ⟨_,hx,by simp⟩
   obtain ⟨f1,f2⟩:=Dq _ u1 u2
   rw[z8 o hi]
   exact ⟨k1,f2.trans k2,vs,f1.trans k3,k4,λi c u hc hu=>⟨(k5 i c u hc hu).1.mono MZ,(k5 i c u hc hu).2⟩⟩
  | some i =>
   have:=yh hi
   subst this
   rw[SA] at hx
   obtain ⟨y,hy,SB⟩:=Option.map_eq_some_iff.1 hx
   cases y<;>simp only[fm.ren] at SB<;>cases SB
   obtain ⟨k1,k2,vs,k3,k4,k5⟩:=h1.row i ty _ hy
   rw[Kj]
   refine ⟨k1,k2,vs,k3,by rw[jz];simpa using k4,λj c u hc hu=>?_⟩
   rw[jz,List.getElem?_map] at hc
   obtain ⟨c',kn,rfl⟩:=Option.map_eq_some_iff.1 hc
   exact ⟨up (k5 j c' u kn hu).1,(k5 j c' u kn hu).2⟩
 ·intro o es hx
  cases hi:eM rs N o with
  | none =>
   rw[MY o hi] at hx
   obtain ⟨k1,ms,c,k3,k4,k5,k6⟩:=h.map o es hx
   obtain ⟨u1,u2⟩:=uo o hi ⟨_,hx,by simp⟩
   obtain ⟨f1,f2⟩:=Dq _ u1 u2
   rw[z8 o hi]
   exact ⟨k1,ms,c,f1.trans k3,k4,λi k x m a b=>⟨(k5 i k x m a b).1,(k5 i k x m a b).2.mono MZ⟩,k6⟩
  | some i =>
   have:=yh hi
   subst this
   rw[SA] at hx
   obtain ⟨y,hy,SB⟩:=Option.map_eq_some_iff.1 hx
   cases y<;>simp only[fm.ren] at SB<;>cases SB
   obtain ⟨k1,ms,c,k3,k4,k5,k6⟩:=h1.map i _ hy
   rw[Kj]
   refine ⟨k1,ms,c,k3,by simpa using k4,λj k x m hm wF=>?_,k6⟩
   rw[List.getElem?_map] at hm
   obtain ⟨q,hq,Xe⟩:=Option.map_eq_some_iff.1 hm
   cases Xe
   have:=k5 j q.1 q.2 m hq wF
   exact ⟨this.1,up this.2⟩
 ·intro o y hx
  cases hi:eM rs N o with
  | none =>
   rw[MY o hi] at hx
   obtain ⟨k1,k2,k3⟩:=h.raw o y hx
   obtain ⟨u1,u2⟩:=uo o hi ⟨_,hx,by simp⟩
   obtain ⟨f1,f2⟩:=Dq _ u1 u2
   rw[z8 o hi]
   exact ⟨k1,f2.trans k2,f1.trans k3⟩
  | some i =>
   have:=yh hi
   subst this
   rw[SA] at hx
   obtain ⟨z,hz,Mw⟩:=Option.map_eq_some_iff.1 hx
   cases z<;>simp only[fm.ren] at Mw<;>cases Mw
   rw[Kj]
   exact h1.raw i _ hz
 ·intro o o' dq ho kj
  have Dr:∀ {a b i:Nat},eM rs N a=some i->eM rs N b=none->S.live a->S.live b->g'.ob a≠g'.ob b:=fun {a b i} ha hb la lb e=>by
   have:=yh ha
   subst this
   rw[Kj,z8 b hb] at e
   obtain ⟨u1,u2⟩:=uo b hb (vY hb lb)
   exact u2 (AG _ u1 (.inl ⟨i,jx ha la,e⟩))
  cases hi:eM rs N o with
  | none =>
   cases hj:eM rs N o' with
   | none=>rw[z8 o hi,z8 o' hj];exact h.ne o o' dq (vY hi ho) (vY hj kj)
   | some j=>exact (Dr hj hi kj ho).symm
  | some i =>
   cases hj:eM rs N o' with
   | none=>exact Dr hi hj ho kj
   | some j =>
    have l1:=jx hi ho
    have l2:=jx hj kj
    have:=yh hi
    subst this
    have:=yh hj
    subst this
    rw[Kj,Kj]
    exact h1.ne i j (λe=>dq (by rw[e])) l1 l2
 ·intro t e sz n hx
  cases hi:eM ts M t with
  | none =>
   rw[BM t hi] at hx
   obtain ⟨xs,k1,k2⟩:=h.tail t e sz n hx
   rw[BN t hi]
   exact ⟨xs,dc k1 λb hb=>(Dq b (ut t _ b hi hx hb).1 (ut t _ b hi hx hb).2).1,λb hb=>by rw[←k2 b hb];exact (Dq b (ut t _ b hi hx hb).1 (ut t _ b hi hx hb).2).2⟩
  | some i =>
   have:=BO hi
   subst this
   rw[MX] at hx
   rw[Mz]
   exact h1.tail i e sz n hx
 ·intro t t' x x' b dq hx g4 hb
  have Dr:∀ {a c i:Nat} {x x':fZ},eM ts M a=some i->eM ts M c=none->S.al[a]?=some x->S.al[c]?=some x'->(g'.tk a).ownBlock=some b->(g'.tk c).ownBlock=some b->False:=fun {a c i x x'} ha hc la lc ea ec=>by
   have:=BO ha
   subst this
   rw[Mz] at ea
   rw[BN c hc] at ec
   rw[MX] at la
   rw[BM c hc] at lc
   obtain ⟨u1,u2⟩:=ut c _ b hc lc ec
   exact u2 (AG b u1 (.inr ⟨i,_,la,ea⟩))
  cases hi:eM ts M t with
  | none =>
   cases hj:eM ts M t' with
   | none =>
    rw[BN t hi] at hb
    rw[BN t' hj]
    rw[BM t hi] at hx
    rw[BM t' hj] at g4
    exact h.km t t' x x' b dq hx g4 hb
   | some j=>exact λgQ=>Dr hj hi g4 hx gQ hb
  | some i =>
   cases hj:eM ts M t' with
   | none=>exact λgQ=>Dr hi hj hx g4 hb gQ
   | some j =>
    have:=BO hi
    subst this
    have:=BO hj
    subst this
    rw[Mz] at hb
    rw[Mz]
    rw[MX] at hx g4
    exact h1.km i j x x' b (λe=>dq (by rw[e])) hx g4 hb
 ·intro t x o hx ho hb
  cases hi:eM ts M t with
  | none =>
   rw[BN t hi] at hb
   rw[BM t hi] at hx
   cases hj:eM rs N o with
   | none =>
    rw[z8 o hj] at hb
    exact h.eD t x o hx (vY hj ho) hb
   | some j =>
    have l2:=jx hj ho
    have:=yh hj
    subst this
    rw[Kj] at hb
    obtain ⟨u1,u2⟩:=ut t _ _ hi hx hb
    exact u2 (AG _ u1 (.inl ⟨j,l2,rfl⟩))
  | some i =>
   have:=BO hi
   subst this
   rw[Mz] at hb
   rw[MX] at hx
   cases hj:eM rs N o with
   | none =>
    rw[z8 o hj] at hb
    obtain ⟨u1,u2⟩:=uo o hj (vY hj ho)
    exact u2 (AG _ u1 (.inr ⟨i,_,hx,hb⟩))
   | some j =>
    have l2:=jx hj ho
    have:=yh hj
    subst this
    rw[Kj] at hb
    exact h1.eD i x j hx l2 hb
 ·intro t e sz n rows hx
  cases hi:eM ts M t with
  | none =>
   rw[BM t hi] at hx
   obtain ⟨xs,k1,k2,k3⟩:=h.own t e sz n rows hx
   rw[BN t hi]
   exact ⟨xs,dc k1 λb hb=>(Dq b (ut t _ b hi hx hb).1 (ut t _ b hi hx hb).2).1,λb hb=>by rw[←k2 b hb];exact (Dq b (ut t _ b hi hx hb).1 (ut t _ b hi hx hb).2).2,k3.mono MZ.bI⟩
  | some i =>
   have:=BO hi
   subst this
   rw[MX] at hx
   rw[Mz]
   exact h1.own i e sz n rows hx
 ·rcases hw with ⟨o,a1,a2⟩|⟨t,x,a1,a2⟩
  ·cases hi:eM rs N o with
   | none=>exact .inl ⟨o,vY hi a1,by rw[←z8 o hi];exact a2⟩
   | some i =>
    have l1:=jx hi a1
    have:=yh hi
    subst this
    rw[Kj] at a2
    exact p.owned (AG b hb (.inl ⟨i,l1,a2⟩))
  ·cases hi:eM ts M t with
   | none =>
    rw[BN t hi] at a2
    rw[BM t hi] at a1
    exact .inr ⟨t,x,a1,a2⟩
   | some i =>
    have:=BO hi
    subst this
    rw[Mz] at a2
    rw[MX] at a1
    exact p.owned (AG b hb (.inr ⟨i,x,a1,a2⟩))
def ua:List EV->List EV->Prop
 | [],[]=>True
 | e::es,x::xs=>dB e x/\ua es xs
 | _,_=>False
theorem ua.get:∀ {es xs:O EV},ua es xs->es.length=xs.length/\∀ (i:Nat) x,xs[i]?=some x->∃ e,es[i]?=some e/\dB e x
 | [],[],_=>⟨rfl,λi y h=>by simp at h⟩
 | e::es,d::ds,h=>by
  obtain ⟨h1,h2⟩:=ua.get h.2
  refine ⟨by simp[h1],λi z hz=>?_⟩
  cases i with
  | zero=>simp at hz;subst hz;exact ⟨e,rfl,h.1⟩
  | succ i=>simpa using h2 i z (by simpa using hz)
 | [],_::_,h=>h.elim
 | _::_,[],h=>h.elim
theorem eg.le {P:uG} {f:FuncId} {es xs:O EV} {st:St} {q:EV->St->Prop} (h:eg P f xs st q) (hle:ua es xs):eg P f es st q:=by
 intro g w base vs hi ha
 obtain ⟨h1,h2⟩:=hle.get
 refine h g w base vs hi ⟨by rw[ha.1,h1],λi x v hx hv=>?_⟩
 obtain ⟨e,he,hl⟩:=h2 i x hx
 exact hl _ _ _ _ (ha.2 i e v he hv)
section call
variable {P:uG} {f:Ctx} {N:Nat} {S:Start} {Q:EV->St->Prop} {k:List Item} {env:Env} {st:St} {ops rest:List Oper}
 {d:Option Tmp} {ty:uE} {pos:String} {after:uD Edge}
def QE (x:EV) (st':St) (e:EV) (s:St):Prop:=dB e x/\s=st'
def AH (rs ts:List Nat) (s0 st:St):Bool :=
 Is rs st.aR.length && Is ts st.al.length && Nat.beq rs.length s0.aR.length && Nat.beq ts.length s0.al.length
theorem Part.of {rs ts:O Nat} {s0 st:St} (h:AH rs ts s0 st=true) (h5:s0.aR.all (kq s0.aR.length s0.al.length)=true)
  (ho:rs.map (λr=>st.aR[r]?)=s0.aR.map (λx=>some (x.ren (df rs st.aR.length) (df ts st.al.length)))) (ht:ts.map (λr=>st.al[r]?)=s0.al.map some) :
  Part (df rs st.aR.length) (df ts st.al.length) s0 st/\G6 rs st.aR.length/\G6 ts st.al.length/\rs.length=s0.aR.length/\ts.length=s0.al.length:=by
 simp only[AH,Bool.and_eq_true] at h
 rw[List.all_eq_true] at h5
 obtain ⟨⟨⟨h1,h2⟩,h3⟩,h4⟩:=h
 have e1:=G6.of h1
 have e2:=G6.of h2
 have l1:=Nat.eq_of_beq_eq_true h3
 have l2:=Nat.eq_of_beq_eq_true h4
 refine ⟨⟨λo x hx=>?_,λt x hx=>?_,λo o' e=>BJ e1 e,λt t' e=>BJ e2 e,λo x hx=>h5 x (List.mem_of_getElem? hx)⟩,e1,e2,l1,l2⟩
 ·have cd:o<rs.length:=by rw[l1];exact (List.getElem?_eq_some_iff.1 hx).1
  have:=congrArg (λl=>l[o]?) ho
  simp only[List.getElem?_map,(vX e1 cd).2,hx,Option.map_some,Option.some.injEq] at this
  exact this
 ·have cd:t<ts.length:=by rw[l2];exact (List.getElem?_eq_some_iff.1 hx).1
  have:=congrArg (λl=>l[t]?) ht
  simp only[List.getElem?_map,(vX e2 cd).2,hx,Option.map_some,Option.some.injEq] at this
  exact this
theorem eg.frame {f:FuncId} {args:O EV} {s0 s1:St} {e1:EV} (rs ts:O Nat) (h:eg P f args s0 (QE e1 s1)) (hp:AH rs ts s0 st=true) (h5:s0.aR.all (kq s0.aR.length s0.al.length)=true) (vJ:args.all (na s0.aR.length s0.al.length)=true)
  (ho:rs.map (λr=>st.aR[r]?)=s0.aR.map (λx=>some (x.ren (df rs st.aR.length) (df ts st.al.length)))) (ht:ts.map (λr=>st.al[r]?)=s0.al.map some) :
  eg P f (args.map (EV.ren (df rs st.aR.length) (df ts st.al.length))) st (QE (e1.ren (df rs st.aR.length) (df ts st.al.length)) (kr st s1 rs ts)):=by
 obtain ⟨p,Wg,Wh,l1,l2⟩:=Part.of hp h5 ho ht
 intro g w base vs hi ha
 rw[List.all_eq_true] at vJ
 refine (h (g.sub _ _) w base vs (hi.part p) ⟨by have:=ha.1;simpa using this,λi x v hx hv=>?_⟩).mono ?_
 ·exact (ha.2 i _ v (by rw[List.getElem?_map,hx];rfl) hv).down p.al (vJ x (List.mem_of_getElem? hx))
 ·rintro e w' ⟨v,r,s,g1,rfl,⟨hle,rfl⟩,hr,hinv,hh⟩
  obtain ⟨g',k1,k2,k3⟩:=hi.It Wg Wh l1 l2 p hinv hh.toStep
  exact ⟨v,_,_,g',rfl,⟨.av _,rfl⟩,k3 _ _ (hle _ _ _ _ hr),k1,⟨k2.du,k2.below,k2.bl,k2.frame,k2.fresh⟩⟩
theorem eg.PZ {f:FuncId} {args:O EV} {x:EV} {st':St} (h:eg P f args st λe s=>∃ (rs ts:O Nat),AH rs ts st' s=true/\st'.aR.all (kq st'.aR.length st'.al.length)=true/\na st'.aR.length st'.al.length x=true/\(Nat.ble st.aR.length rs.length && Nat.ble st.al.length ts.length)=true /\
   rs.take st.aR.length=List.range st.aR.length/\ts.take st.al.length=List.range st.al.length /\
   rs.map (λr=>s.aR[r]?)=st'.aR.map (λy=>some (y.ren (df rs s.aR.length) (df ts s.al.length)))/\ts.map (λr=>s.al[r]?)=st'.al.map some /\
   dB e (x.ren (df rs s.aR.length) (df ts s.al.length))):eg P f args st (QE x st'):=by
 intro g w base vs hi ha
 refine (h g w base vs hi ha).mono ?_
 rintro e w' ⟨v,r,s,g1,rfl,⟨rs,ts,hp,h5,hx,hl,R7,PC,ho,ht,hle⟩,hr,hinv,hh⟩
 obtain ⟨p,Wg,Wh,l1,l2⟩:=Part.of hp h5 ho ht
 simp only[Bool.and_eq_true] at hl
 have T0:=Nat.le_of_ble_eq_true hl.1
 have T1:=Nat.le_of_ble_eq_true hl.2
 have same:∀ {l:O Nat} {n N:Nat},l.take n=List.range n->n<=l.length->∀ i,i<n->df l N i=i:=fun {l n N} hl hn i hi=>by
  have e:(l.take n)[i]?=some i:=by rw[hl,List.getElem?_range hi]
  rw[List.getElem?_take,if_pos hi] at e
  simp[df,e]
 have so:=λi hi=>same (N:=s.aR.length) R7 T0 i hi
 have T2:=λi hi=>same (N:=s.al.length) PC T1 i hi
 have OM:∀ {i:Nat},i<st'.al.length->st'.al[i]?=s.al[df ts s.al.length i]?:=fun {i} hi=>by
  rw[p.al i _ (List.getElem?_eq_getElem hi),List.getElem?_eq_getElem hi]
 refine ⟨v,x,st',g1.sub _ _,rfl,⟨.av _,rfl⟩,(hle _ _ _ _ hr).down p.al hx,hinv.part p,⟨⟨hh.du.bI,λo kj=>?_,(by show st.aR.length<=_;omega),λt e sz n hx=>?_,(by show st.al.length<=_;omega),λt x' aY cd g4 kj=>?_⟩,hh.below,hh.bl,hh.frame,λb hb hw=>hh.fresh b hb (p.owned hw)⟩⟩
 ·show g1.ob (df rs s.aR.length o)=g.ob o
  rw[so o kj]
  exact hh.du.ob o kj
 ·have cd:t<st.al.length:=(List.getElem?_eq_some_iff.1 hx).1
  obtain ⟨n',a1,a2,a3⟩:=hh.du.al t e sz n hx
  refine ⟨n',?_,a2,λe'=>?_⟩
  ·rw[OM (by omega),T2 t cd];exact a1
  ·show g1.tk (df ts s.al.length t)=g.tk t
   rw[T2 t cd]
   exact a3 e'
 ·rw[OM (by have:=(List.getElem?_eq_some_iff.1 g4).1;exact this),T2 t cd] at g4
  obtain ⟨y,rows,a1,a2,a3,a4,a5⟩:=hh.du.own t x' aY cd g4 kj
  refine ⟨y,rows,a1,a2,a3,a4,λe'=>?_⟩
  show g1.tk (df ts s.al.length t)=g.tk t
  rw[T2 t cd]
  exact a5 e'
end call
section call
variable {P:uG} {f:Ctx} {N:Nat} {S:Start} {Q:EV->St->Prop} {k:List Item} {env:Env} {st:St} {ops rest:List Oper}
 {d:Option Tmp} {ty:uE} {pos:String} {after:uD Edge}
theorem Ds {d:J Tmp} {x r:EV} (hle:dB x r) (h:cn P f N S Q ops rest k (env.put d r) st):cn P f N S Q ops rest k (env.put d x) st:=by
 cases d with
 | none=>exact h
 | some t =>
  intro i hi g w tmps hinv hh he hn
  refine h i hi g w tmps hinv hh (λj y hy=>?_) hn
  unfold Env.put lookup at hy
  cases hb:Nat.beq j t with
  | true =>
   rw[hb] at hy
   simp only[Option.some.injEq] at hy
   subst hy
   have:=Nat.eq_of_beq_eq_true hb
   subst this
   obtain ⟨v,h1,h2⟩:=he j x (by unfold Env.put lookup;rw[Nat.beq_refl])
   exact ⟨v,h1,hle _ _ _ _ h2⟩
  | false =>
   rw[hb] at hy
   exact he j y (by unfold Env.put lookup;rw[hb];exact hy)
theorem cn.ON {f':FuncId} {l:O uH} {ts:uD uE} {P0 es:O EV} {x r:EV} {s0 s1 st':St} (GN:Enters P f') (hd:dZ N d=true) (rs tk:O Nat)
  (h1:xN env l=some es) (hc:eg P f' P0 s0 (QE r s1)) (hle:ua es (P0.map (EV.ren (df rs st.aR.length) (df tk st.al.length))))
  (hp:(AH rs tk s0 st && P0.all (na s0.aR.length s0.al.length))=true) (h5:s0.aR.all (kq s0.aR.length s0.al.length)=true)
  (ho:rs.map (λr=>st.aR[r]?)=s0.aR.map (λx=>some (x.ren (df rs st.aR.length) (df tk st.al.length)))) (ht:tk.map (λr=>st.al[r]?)=s0.al.map some)
  (hx:r.ren (df rs st.aR.length) (df tk st.al.length)=x) (hs:kr st s1 rs tk=st')
  (hk:cn P f N S Q ops rest k (env.put d x) st') :
  cn P f N S Q ops (⟨d,.call ⟨.value (.func f'),l.toArray,ts⟩,ty,pos,after,none⟩::rest) k env st:=by
 simp only[Bool.and_eq_true] at hp
 refine .RT GN hd h1 ((hc.frame rs tk hp.1 h5 hp.2 ho ht).le hle) λy s hq=>?_
 obtain ⟨hle,rfl⟩:=hq
 rw[hx] at hle
 rw[hs]
 exact Ds hle hk
theorem cn.Kk {f':FuncId} {l:O uH} {ts:uD uE} {P0 es cs:O EV} {x r:EV} {y:uH} {s0 s1 st':St} (GN:Enters P f') (hd:dZ N d=true) (hy:bI env y=some (.xj f' cs)) (rs tk:O Nat)
  (h1:xN env l=some es) (hc:eg P f' P0 s0 (QE r s1)) (hle:ua (es++cs) (P0.map (EV.ren (df rs st.aR.length) (df tk st.al.length))))
  (hp:(AH rs tk s0 st && P0.all (na s0.aR.length s0.al.length))=true) (h5:s0.aR.all (kq s0.aR.length s0.al.length)=true)
  (ho:rs.map (λr=>st.aR[r]?)=s0.aR.map (λx=>some (x.ren (df rs st.aR.length) (df tk st.al.length)))) (ht:tk.map (λr=>st.al[r]?)=s0.al.map some)
  (hx:r.ren (df rs st.aR.length) (df tk st.al.length)=x) (hs:kr st s1 rs tk=st')
  (hk:cn P f N S Q ops rest k (env.put d x) st') :
  cn P f N S Q ops (⟨d,.call ⟨.value y,l.toArray,ts⟩,ty,pos,after,none⟩::rest) k env st:=by
 simp only[Bool.and_eq_true] at hp
 have kn:=(hc.frame rs tk hp.1 h5 hp.2 ho ht).le hle
 refine .RU GN hd hy h1 kn λy s hq=>?_
 obtain ⟨hle,rfl⟩:=hq
 rw[hx] at hle
 rw[hs]
 exact Ds hle hk
end call
theorem gY {n m:Nat} {x:fm} {l:O fm} (h1:kq n m x=true) (h2:l.all (kq n m)=true):(x::l).all (kq n m)=true:=by
 simp[h1];simpa using h2
theorem yi {a b:Bool} (h1:a=true) (h2:b=true):(a && b)=true:=by rw[h1,h2];rfl
section tok
variable {P:uG} {f:Ctx} {N:Nat} {S:Start} {Q:EV->St->Prop} {k:List Item} {todo:List Item} {env:Env} {st:St} {ops rest:List Oper}
theorem Inv.qS {g:br} {base o ci:Nat} {w:uC} {T:uE} {cs:O EV} (h:Inv g base w st) (ho:st.aR[o]?=some (.row T cs)) (hc:cs[ci]?=some (.d (.ex (.slice none 0 0)))) (e sz:Nat) :
  ∃ g',Inv g' base w ((st.tok ⟨e,sz,0,none⟩).set o (.row T (cs.set ci (.bX sz [] st.al.length))))/\Step base g w st g' w ((st.tok ⟨e,sz,0,none⟩).set o (.row T (cs.set ci (.bX sz [] st.al.length)))):=by
 obtain ⟨g1,h1,h2,h3⟩:=h.BD e sz
 have zN:(st.tok ⟨e,sz,0,none⟩).aR[o]?=some (.row T cs):=ho
 obtain ⟨b1,b2,vs,b3,b4,b5⟩:=h2.row o T cs zN
 obtain ⟨hi,hs⟩:=h2.setBlock (o:=o) (x:=.row T (cs.set ci (.bX sz [] st.al.length))) (w':=w) ⟨_,zN,by simp⟩ b2 rfl (λ_ _=>rfl) rfl rfl rfl
  (λJP Jy zP g4=>by
   cases g4
   refine ⟨vs,b3,by simpa using b4,λi c u nZ hu=>?_⟩
   rw[List.getElem?_set] at nZ
   split at nZ
   ·rename_i hic
    subst hic
    split at nZ
    ·cases nZ
     have h0:=b5 ci _ u hc hu
     refine ⟨?_,h0.2⟩
     have UR:u=.slice none 0 0:=h0.1.aZ
     subst UR
     exact .bX sz [] _ _ e 0 (.nil sz _) (by simp[St.tok,St.set]) (Nat.le_refl _) (λ_=>.inl h1.symm)
    ·cases nZ
   ·have h0:=b5 i c u nZ hu
    exact ⟨h0.1.mono JP,h0.2⟩) (λ_ es g4=>by cases g4)
 exact ⟨g1,hi,h3.trans hs⟩
theorem ba.qS {o ci e sz:Nat} {T:uE} {cs:O EV} (ho:st.aR[o]?=some (.row T cs)) (hc:cs[ci]?=some (.d (.ex (.slice none 0 0))))
  (h:ba P f N S Q todo env ((st.tok ⟨e,sz,0,none⟩).set o (.row T (cs.set ci (.bX sz [] st.al.length))))):ba P f N S Q todo env st:=by
 intro g w tmps hinv hh he hn
 obtain ⟨g',h1,h2⟩:=hinv.qS ho hc e sz
 exact h g' w tmps h1 (hh.step h2) (he.mono h2.du) hn
theorem cn.qS {o ci e sz:Nat} {T:uE} {cs:O EV} (ho:st.aR[o]?=some (.row T cs)) (hc:cs[ci]?=some (.d (.ex (.slice none 0 0))))
  (h:cn P f N S Q ops rest k env ((st.tok ⟨e,sz,0,none⟩).set o (.row T (cs.set ci (.bX sz [] st.al.length))))):cn P f N S Q ops rest k env st :=
 λj hj=>.qS ho hc (h j hj)
end tok
section rules
variable {P:uG} {base:Nat} {env:Env} {st:St} {d:Option Tmp} {ty:uE} {pos:String} {after:uD Edge} {gd:Option (Nat×Bool)} {t:uE} {x:uH}
theorem Kl {o off:Nat} (hx:bI env x=some (.ref o off)):az P env st ⟨d,.nilCheck x,ty,pos,after,gd⟩ (.ref o off):=λg base w tmps hi he=>by
 have h:=aA he hx
 generalize hv:Act.eval ⟨tmps,[]⟩ x=v at h
 cases h with
 | ref _ _ cd=>exact ⟨_,.ref _ _ cd,λw' _=>by simp[execOp,hv]⟩
end rules
section rep
variable {g:br} {base:Nat} {w:uC} {st:St}
theorem G7 (h:Inv g base w st) {t e sz n:Nat} {rows:O (O D)} {v:uB} (dO:st.al[t]?=some ⟨e,sz,n,some rows⟩) (hv:bm g w st (.vc t n) v) :
  v=g.tk t∨(n=0/\rows=[]/\∃ A,v=.slice A 0 0):=by
 cases hv with
 | vc _ _ _ ht hf hh =>
  rcases (hh _ rows dO rfl).2 rfl with h1|⟨h1,h3⟩
  ·exact .inl h1
  ·obtain ⟨xs,_,_,k⟩:=h.own t e sz n rows dO
   exact .inr ⟨h1,List.eq_nil_of_length_eq_zero (by rw[k.len];exact h1),h3⟩
theorem Km (h:Inv g base w st) {t e sz n:Nat} {rows:O (O D)} {v:uB} (dO:st.al[t]?=some ⟨e,sz,n,some rows⟩) (hv:v=g.tk t) :
  v=g.tk t/\∃ xs,w.ownsRow base e sz v n xs/\(∀ b,v.ownBlock=some b->g.bl b=0)/\e7 g.bl w sz n rows xs:=by
 subst hv
 exact ⟨rfl,h.own t e sz n rows dO⟩
theorem Kn {t e sz:Nat} {rows:O (O D)} {v:uB} (cd:t<st.al.length) (dO:st.al[t]?=some ⟨e,sz,0,some rows⟩) (hv:∃ A,v=.slice A 0 0):bm g w st (.vc t 0) v :=
 .vc t 0 _ cd (by obtain ⟨A,rfl⟩:=hv;exact ⟨_,_,_,rfl⟩) λx aY hx ho=>by rw[dO] at hx;cases hx;exact ⟨Nat.le_refl _,λ_=>.inr ⟨rfl,hv⟩⟩
theorem yj {w:uC} {base e sz n:Nat} {v:uB} {xs:O uB} (h:w.ownsRow base e sz v n xs):(∃ A c,v=.slice A n c)/\(n≠0->∃ b c,v=.slice (some ⟨b,0,none⟩) n c):=by
 rcases h.2 with ⟨rfl,rfl⟩|⟨b,cap,cur,rfl,_⟩
 ·exact ⟨⟨_,_,rfl⟩,λh0=>absurd rfl h0⟩
 ·exact ⟨⟨_,_,rfl⟩,λ_=>⟨_,_,rfl⟩⟩
theorem e7.get {bl:Nat->Nat} {sz n:Nat} {rows:O (O D)} {xs:O uB} (h:e7 bl w sz n rows xs) (hx:xs.length=n*sz) {i j:Nat} {row:O D} {c:D} (hi:rows[i]?=some row) (hj:row[j]?=some c) :
  ∃ u,xs[i*sz+j]?=some u/\cT bl w c u/\u.oneCell'=true:=by
 have hl:=h.row row (List.mem_of_getElem? hi)
 have cd:i*sz+j<xs.length:=by
  rw[hx,←h.len]
  exact Bu (List.getElem?_eq_some_iff.1 hi).1 (by rw[←hl];exact (List.getElem?_eq_some_iff.1 hj).1)
 exact ⟨_,List.getElem?_eq_getElem cd,h.rep _ c _ (mF h.row hi hj) (List.getElem?_eq_getElem cd)⟩
theorem Iu {P:uG} {e sz n b cap:Nat} {xs:O uB} (h:w.ownsRow base e sz (.slice (some ⟨b,0,none⟩) n cap) n xs) (off:Nat) (new:O uB) (MM:off+new.length<=n*sz) (h1:∀ v∈new,v.oneCell'=true) :
  ∃ w',(storeCells ⟨b,off,none⟩ new 0).run P w=.ok () w'/\w'.ownsRow base e sz (.slice (some ⟨b,0,none⟩) n cap) n (xs.take off++new++xs.drop (off+new.length))/\w.grownBy w' (some b)/\w'.heap.size=w.heap.size:=by
 rcases h.2 with ⟨h',_⟩|⟨g',Xf,cur,h',hb,hg,R1,Rp,GR,GU⟩
 ·cases h'
 ·cases h'
  have hle:n*sz<=cap*sz:=Nat.mul_le_mul_right _ R1
  have lH:=run_storeCells_at P b off e new 0 cur w hg (by simp;omega) h1
  simp only[Nat.add_zero] at lH
  refine ⟨_,lH,⟨?_,.inr ⟨b,cap,_,rfl,hb,setRow_heap w b cur _ e (0,0) hg,R1,Rp,?_,?_⟩⟩,⟨rfl,rfl,rfl,by simp,λk _ hk=>setRow_other w b k _ (λe=>hk (by rw[e]))⟩,by simp⟩
  ·have:=h.1
   simp;omega
  ·simp;omega
  ·have hx:=h.1
   apply List.ext_getElem?
   intro j
   simp only[List.toList_toArray]
   rw[List.getElem?_take]
   have SC:∀ j,j<n*sz->cur.toList[j]?=xs[j]?:=λj hj=>by rw[←GU,List.getElem?_take,if_pos hj]
   by_cases hj:j<n*sz
   ·rw[if_pos hj]
    by_cases h1:j<off
    ·rw[List.append_assoc,List.append_assoc,List.getElem?_append_left (by simp;omega),List.getElem?_append_left (by simp;omega),List.getElem?_take,List.getElem?_take,if_pos h1,if_pos h1]
     exact SC j hj
    ·by_cases h2:j<off+new.length
     ·have key:∀ l r:O uB,l.length=off->(l++new++r)[j]?=new[j-off]?:=λl r hl=>by
       rw[List.append_assoc,List.getElem?_append_right (by omega),hl,List.getElem?_append_left (by omega)]
      rw[key _ _ (by simp;omega),key _ _ (by simp;omega)]
     ·have key:∀ l r:O uB,l.length=off->(l++new++r)[j]?=r[j-(off+new.length)]?:=λl r hl=>by
       rw[List.getElem?_append_right (by simp;omega)];congr 1;simp;omega
      rw[key _ _ (by simp;omega),key _ _ (by simp;omega),List.getElem?_drop,List.getElem?_drop]
      have e3:off+new.length+(j-(off+new.length))=j:=by omega
      rw[e3]
      exact SC j hj
   ·rw[if_neg hj]
    rw[List.getElem?_eq_none]
    simp;omega
theorem FO {bl:Nat->Nat} {sz n:Nat} {rows:O (O D)} {xs us:O uB} (h:e7 bl w sz n rows xs) (hx:xs.length=n*sz) {i off:Nat} {row new:O D} (hi:rows[i]?=some row) (RW:off+new.length<=sz)
  (hu:us.length=new.length) (lI:∀ (j:Nat) c u,new[j]?=some c->us[j]?=some u->cT bl w c u/\u.oneCell'=true) :
  e7 bl w sz n (rows.set i (row.take off++new++row.drop (off+new.length))) (xs.take (i*sz+off)++us++xs.drop (i*sz+off+us.length)):=by
 have UH:=h.row row (List.mem_of_getElem? hi)
 have Fm:i<rows.length:=(List.getElem?_eq_some_iff.1 hi).1
 have Rx:(row.take off++new++row.drop (off+new.length)).length=sz:=by simp;omega
 have od:∀ r,r∈rows.set i (row.take off++new++row.drop (off+new.length))->r.length=sz:=λr hr=>by
  rcases List.mem_or_eq_of_mem_set hr with h1|h1
  ·exact h.row r h1
  ·rw[h1];exact Rx
 refine ⟨by simpa using h.len,od,λj c u hc pL=>?_⟩
 have By:=jw od
 have AD:j<n*sz:=by rw[←h.len];have:=(List.getElem?_eq_some_iff.1 hc).1;rw[By] at this;simpa using this
 have iW:0<sz:=by
  rcases Nat.eq_zero_or_pos sz with h0|h0
  ·subst h0;omega
  ·exact h0
 have JU:j=(j / sz)*sz+j % sz:=by rw[Nat.mul_comm];exact (Nat.div_add_mod j sz).symm
 have hq:j / sz<rows.length:=by rw[h.len];exact Nat.div_lt_of_lt_mul (by rw[Nat.mul_comm];exact AD)
 have hm:j % sz<sz:=Nat.mod_lt _ iW
 have cd:i*sz+off+us.length<=n*sz:=by
  have:(i+1)*sz<=n*sz:=Nat.mul_le_mul_right _ (by rw[←h.len];omega)
  rw[Nat.add_mul] at this
  omega
 by_cases T3:j / sz=i
 ·-- in the row that is written
  have uY:(rows.set i (row.take off++new++row.drop (off+new.length)))[j / sz]?=some (row.take off++new++row.drop (off+new.length)):=by rw[T3,List.getElem?_set,if_pos rfl,if_pos Fm]
  have wX:=mF od uY (List.getElem?_eq_getElem (show j % sz<_ by rw[Rx];exact hm))
  rw[←JU,hc] at wX
  have cX:(row.take off++new++row.drop (off+new.length))[j % sz]?=some c:=by cases wX;exact List.getElem?_eq_getElem _
  rw[T3] at JU
  by_cases h1:j % sz<off
  ·rw[List.append_assoc,List.getElem?_append_left (by simp;omega),List.getElem?_take,if_pos h1] at cX
   rw[List.append_assoc,List.getElem?_append_left (by simp;omega),List.getElem?_take,if_pos (by omega)] at pL
   obtain ⟨u2,a1,a2⟩:=h.get hx hi cX
   rw[←JU,pL] at a1
   cases a1
   exact a2
  ·by_cases h2:j % sz<off+new.length
   ·rw[List.append_assoc,List.getElem?_append_right (by simp;omega),List.getElem?_append_left (by simp;omega)] at cX
    rw[List.append_assoc,List.getElem?_append_right (by simp;omega),List.getElem?_append_left (by simp;omega)] at pL
    have e1:(List.take off row).length=off:=by simp;omega
    have e2:(List.take (i*sz+off) xs).length=i*sz+off:=by simp;omega
    rw[e1] at cX
    rw[e2] at pL
    have e3:j-(i*sz+off)=j % sz-off:=by omega
    rw[e3] at pL
    exact lI _ c u cX pL
   ·rw[List.getElem?_append_right (by simp;omega)] at cX pL
    have e1:(List.take off row++new).length=off+new.length:=by simp;omega
    have e2:(List.take (i*sz+off) xs++us).length=i*sz+off+us.length:=by simp;omega
    rw[e1,List.getElem?_drop] at cX
    rw[e2,List.getElem?_drop] at pL
    have e3:off+new.length+(j % sz-(off+new.length))=j % sz:=by omega
    have e4:i*sz+off+us.length+(j-(i*sz+off+us.length))=j:=by omega
    rw[e3] at cX
    rw[e4] at pL
    obtain ⟨u2,a1,a2⟩:=h.get hx hi cX
    rw[←JU,pL] at a1
    cases a1
    exact a2
 ·have uY:(rows.set i (row.take off++new++row.drop (off+new.length)))[j / sz]?=some rows[j / sz]:=by rw[List.getElem?_set,if_neg (Ne.symm T3)];exact List.getElem?_eq_getElem hq
  have US:=h.row rows[j / sz] (List.getElem_mem hq)
  have wX:=mF od uY (List.getElem?_eq_getElem (show j % sz<_ by rw[US];exact hm))
  rw[←JU,hc] at wX
  have cX:rows[j / sz][j % sz]?=some c:=by cases wX;exact List.getElem?_eq_getElem _
  have Xg:xs[j]?=some u:=by
   by_cases h1:j<i*sz+off
   ·rw[List.append_assoc,List.getElem?_append_left (by simp;omega),List.getElem?_take,if_pos h1] at pL
    exact pL
   ·have:¬ j<i*sz+off+us.length:=by
     intro h2
     apply T3
     have h3:j<(i+1)*sz:=by rw[Nat.add_mul];omega
     have h4:i*sz<=j:=by omega
     exact Nat.le_antisymm (Nat.le_of_lt_succ (Nat.div_lt_of_lt_mul (by rw[Nat.mul_comm];exact h3))) ((Nat.le_div_iff_mul_le iW).2 h4)
    rw[List.getElem?_append_right (by simp;omega)] at pL
    have e2:(List.take (i*sz+off) xs++us).length=i*sz+off+us.length:=by simp;omega
    rw[e2,List.getElem?_drop] at pL
    have e4:i*sz+off+us.length+(j-(i*sz+off+us.length))=j:=by omega
    rw[e4] at pL
    exact pL
  obtain ⟨u2,a1,a2⟩:=h.get hx (List.getElem?_eq_getElem hq) cX
  rw[←JU,Xg] at a1
  cases a1
  exact a2
end rep
section rules
variable {P:uG} {f:Ctx} {N:Nat} {S:Start} {Q:EV->St->Prop} {k:List Item} {todo:List Item} {base:Nat} {env:Env} {st:St} {ops rest:List Oper}
 {d:Option Tmp} {ty:uE} {pos:String} {after:uD Edge} {gd:Option (Nat×Bool)} {t t2 e:uE} {x y z:uH}
theorem ba.UT {α:Type} {tk:Nat} {e sz n:Nat} {l:O α} {row:α->O D} (dO:st.al[tk]?=some ⟨e,sz,n,some (l.map row)⟩) (h:n=l.length->ba P f N S Q todo env st):ba P f N S Q todo env st:=by
 intro g w tmps hinv
 obtain ⟨xs,_,_,h3⟩:=hinv.own tk e sz n _ dO
 exact h (by have:=h3.len;simpa using this.symm) g w tmps hinv
theorem Inv.freeze {g:br} {w:uC} {tk e sz n:Nat} {rows:O (O D)} (h:Inv g base w st) (dO:st.al[tk]?=some ⟨e,sz,n,some rows⟩) :
  ∃ g',g'.tk tk=g.tk tk/\Inv g' base w (st.a8 tk ⟨e,sz,n,none⟩)/\Step base g w st g' w (st.a8 tk ⟨e,sz,n,none⟩)/\cT g'.bl w (.sl sz rows) (g.tk tk):=by
 obtain ⟨xs,h1,h2,h3⟩:=h.own tk e sz n rows dO
 obtain ⟨g',k1,k2,k3,k4⟩:=h.JW (x':=⟨e,sz,n,none⟩) (v':=g.tk tk) (w':=w) dO h1 (.inl ⟨rfl,rfl,⟨rfl,rfl,rfl,Nat.le_refl _,λ_ _ _=>rfl⟩⟩) (λhh=>by cases hh) (λrows _ aY hh=>by cases hh) (λrows hh=>by cases hh)
 refine ⟨g',k1,k3,k4,FC h1 h3.len h3.row (λb hb=>by rw[k2 b hb,oc rfl];exact Nat.le_refl _) λj u c hu hc=>?_⟩
 exact ⟨(h3.rep j c u hc hu).1.mono k4.du.bI,(h3.rep j c u hc hu).2⟩
section sl
variable {α:Type} {sz:Nat} {row:α->List D} {l:List α} {ev:EV} {inf:TypeInfo} {tk n:Nat}
theorem FP [Inhabited α] {kk:IntKind} {i:Int} {e':Nat} (ht:P.underlying t=some (.slice e)) (hi:P.info? e=some inf) (iW:inf.size=sz) (hx:bI env x=some (.vc tk n)) (dO:st.al[tk]?=some ⟨e',sz,n,some (l.map row)⟩) (hy:bI env y=some (.d (.ex (.int kk i)))) (h:0<=i/\i<l.length) :
  az P env st ⟨d,.indexAddr t x y,ty,pos,after,gd⟩ (.vp tk n i.toNat 0):=λg base w tmps hinv he=>by
 have UU:Act.eval ⟨tmps,[]⟩ x=g.tk tk:=by
  rcases G7 hinv dO (aA he hx) with GW|⟨n0,r0,A,hv⟩
  ·exact GW
  ·have hl:l=[]:=by simpa using r0
   rw[hl] at h;simp at h;omega
 obtain ⟨GW,xs,h2,_,h4⟩:=Km hinv dO UU
 have hn:n=l.length:=by have:=h4.len;simpa using this.symm
 obtain ⟨b,c,hv⟩:=(yj h2).2 (by omega)
 have hlen:tk<st.al.length:=(List.getElem?_eq_some_iff.1 dO).1
 subst iW
 refine ⟨.pointer (some ⟨b,i.toNat*inf.size,none⟩),.vp _ _ _ _ _ hlen ⟨_,_,rfl⟩ λx rows hx ho=>?_,λw' _=>?_⟩
 ·rw[dO] at hx
  cases hx
  exact ⟨Nat.le_refl _,λ_=>⟨b,n,c,by rw[←GW,hv],rfl⟩⟩
 ·have:=Az (d:=d) (ty:=ty) (pos:=pos) (after:=after) (gd:=gd) ht hi hv (aA he hy).aZ h.1 (by omega) w'
  rw[Addr.add_lit,Nat.zero_add] at this
  exact this
theorem Iv {s:uE} {f off i o:Nat} (hf:il P s f=some off) (hx:bI env x=some (.vp tk n i o)) :
  az P env st ⟨d,.fieldAddr s x f,ty,pos,after,gd⟩ (.vp tk n i (o+off)):=λg base w tmps hinv he=>by
 have h:=aA he hx
 generalize hv:Act.eval ⟨tmps,[]⟩ x=v at h
 cases h with
 | vp _ _ _ _ _ ht Wi hh =>
  obtain ⟨b,o',rfl⟩:=Wi
  refine ⟨.pointer (some ⟨b,o'+off,none⟩),.vp _ _ _ _ _ ht ⟨_,_,rfl⟩ λx rows hx ho=>?_,λw' _=>by simp[execOp,hv,nY hf,Addr.add_lit]⟩
  obtain ⟨h1,h2⟩:=hh x rows hx ho
  refine ⟨h1,λe=>?_⟩
  obtain ⟨b2,m,c,a1,a2⟩:=h2 e
  cases a2
  exact ⟨b,m,c,a1,by rw[Nat.add_assoc]⟩
theorem Dt {g:br} {w:uC} {i o e':Nat} {v:uB} {r:O D} {rows:O (O D)} (hinv:Inv g base w st) (dO:st.al[tk]?=some ⟨e',sz,n,some rows⟩) (hv:bm g w st (.vp tk n i o) v) (hr:rows[i]?=some r) :
  ∃ b c xs,g.tk tk=.slice (some ⟨b,0,none⟩) n c/\v=.pointer (some ⟨b,i*sz+o,none⟩)/\w.ownsRow base e' sz (.slice (some ⟨b,0,none⟩) n c) n xs/\g.bl b=0/\e7 g.bl w sz n rows xs/\b<w.heap.size /\
   ∀ j cc,r[j]?=some cc->∃ u,w.cell? ⟨b,i*sz+j,none⟩=some u/\xs[i*sz+j]?=some u/\cT g.bl w cc u/\u.oneCell'=true:=by
 cases hv with
 | vp _ _ _ _ _ ht Wi hh =>
  obtain ⟨b,m,c,a1,a2⟩:=(hh _ rows dO rfl).2 rfl
  obtain ⟨xs,h1,h2,h3⟩:=hinv.own tk e' sz n rows dO
  rw[a1] at h1 h2
  have hm:m=n:=by
   rcases h1.2 with ⟨hh,_⟩|⟨_,_,_,hh,_⟩
   ·cases hh
   ·cases hh;rfl
  subst hm
  refine ⟨b,c,xs,a1,a2,h1,h2 b rfl,h3,(h1.lt b rfl).2,λj cc hj=>?_⟩
  obtain ⟨u,k1,k2⟩:=h3.get h1.1 hr hj
  have:=h1.cells (g:=b) rfl _ u k1
  rw[Addr.add_lit,Nat.zero_add] at this
  exact ⟨u,this,k1,k2⟩
theorem Iw [Inhabited α] {i o e' m:Nat} {cs:O D} (h1:(P.underlying t).map jm=some false) (hs:(P.info? t).map (·.size)=some m) (hx:bI env x=some (.vp tk n i o)) (dO:st.al[tk]?=some ⟨e',sz,n,some (l.map row)⟩) (hi:i<l.length)
  (hm:o+m<=sz) (hc:((row (nth l i)).drop o).take m=cs):az P env st ⟨d,.load t x,ty,pos,after,gd⟩ (.d (.agg cs)):=λg base w tmps hinv he=>by
 obtain ⟨b,cp,xs,a1,a2,a3,a4,a5,a6,a7⟩:=Dt hinv dO (aA he hx) (xZ hi)
 have UH:(row (nth l i)).length=sz:=a5.row _ (List.mem_of_getElem? (xZ hi))
 have hl:cs.length=m:=by rw[←hc];simp;omega
 let us:O uB:=(xs.drop (i*sz+o)).take m
 have Sa:∀ j u,us[j]?=some u->j<m/\xs[i*sz+(o+j)]?=some u:=λj u hu=>by
  simp only[us,List.getElem?_take,List.getElem?_drop] at hu
  split at hu
  ·rename_i hj
   exact ⟨hj,by rw[←hu];congr 1;omega⟩
  ·cases hu
 have cX:∀ j,j<m->∃ cc u,cs[j]?=some cc/\us[j]?=some u/\w.cell? ⟨b,i*sz+o+j,none⟩=some u/\cT g.bl w cc u/\u.oneCell'=true:=λj hj=>by
  have e1:(row (nth l i))[o+j]?=some ((row (nth l i))[o+j]'(by omega)):=List.getElem?_eq_getElem _
  obtain ⟨u,k1,k2,k3,k4⟩:=a7 (o+j) _ e1
  refine ⟨_,u,by rw[show cs[j]?=(((row (nth l i)).drop o).take m)[j]? from by rw[hc],List.getElem?_take,if_pos hj,List.getElem?_drop];exact e1,?_,by rw[Nat.add_assoc];exact k1,k3,k4⟩
  simp only[us,List.getElem?_take,List.getElem?_drop]
  rw[if_pos hj,←k2];congr 1;omega
 have P1:us.length=m:=by
  have h1:=a3.1
  have Fm:i<n:=by have:=a5.len;simp at this;omega
  have h2:(i+1)*sz<=n*sz:=Nat.mul_le_mul_right _ Fm
  rw[Nat.add_mul] at h2
  simp[us];omega
 refine ⟨.agg us.toArray,.d _ _ (.agg _ _ (by simp[P1,hl]) (λj u hu=>?_) (λj cc u wX hu=>?_)),λw' hb=>?_⟩
 ·obtain ⟨hj,_⟩:=Sa j u (by simpa using hu)
  obtain ⟨cc,u',b1,b2,b3,b4,b5⟩:=cX j hj
  have:us[j]?=some u:=by simpa using hu
  rw[b2] at this;cases this;exact b5
 ·obtain ⟨hj,_⟩:=Sa j u (by simpa using hu)
  obtain ⟨Ye,u',b1,b2,b3,b4,b5⟩:=cX j hj
  have:us[j]?=some u:=by simpa using hu
  rw[b2] at this;cases this
  rw[b1] at wX;cases wX
  exact b4
 ·obtain ⟨inf,vO,Bw⟩:∃ inf,P.info? t=some inf/\inf.size=m:=by
   cases hh:P.info? t with
   | none=>rw[hh] at hs;cases hs
   | some inf=>rw[hh] at hs;exact ⟨inf,rfl,by simpa using hs⟩
  have xP:=gR (P:=P) (w:=w') (b:=b) (off:=i*sz+o) P1 (λj u hu=>by
   obtain ⟨hj,_⟩:=Sa j u hu
   obtain ⟨cc,u',b1,b2,b3,b4,b5⟩:=cX j hj
   rw[b2] at hu;cases hu
   exact (hb.cell (p:=⟨b,i*sz+o+j,none⟩) a6).trans b3)
  simp[execOp,a2,Instr.loadAt,Instr.sureAddr,loadVar,sX h1,sizeOf,typeInfo,vO,Bw,xP]
theorem Du [Inhabited α] {i o e' m:Nat} {new:O D} {a:α} (hx:bI env x=some (.vp tk n i o)) (dO:st.al[tk]?=some ⟨e',sz,n,some (l.map row)⟩) (hi:i<l.length) (hy:bI env y=some ev) (hc:cellsD ev=some new)
  (hs:(P.info? t).map (·.size)=some m) (hm:new.length=m) (Yf:o+m<=sz) (ha:(row (nth l i)).take o++new++(row (nth l i)).drop (o+new.length)=row a) :
  CN P base env st ⟨d,.store t x y,ty,pos,after,gd⟩ (st.a8 tk ⟨e',sz,n,some ((l.set i a).map row)⟩):=by
 intro g w tmps hinv he
 obtain ⟨b,cp,xs,a1,a2,a3,a4,a5,a6,a7⟩:=Dt hinv dO (aA he hx) (xZ hi)
 have SD:=j4 hc (aA he hy)
 generalize hu:Act.eval ⟨tmps,[]⟩ y=u at SD
 have P1:u.cells.toList.length=new.length:=by simpa using SD.1
 have Fm:i<n:=by have:=a5.len;simp at this;omega
 have h2:(i+1)*sz<=n*sz:=Nat.mul_le_mul_right _ Fm
 rw[Nat.add_mul] at h2
 have UW:∀ v∈u.cells.toList,v.oneCell'=true:=λv hv=>by
  obtain ⟨j,hj⟩:=List.mem_iff_getElem?.1 hv
  have AD:=(List.getElem?_eq_some_iff.1 hj).1
  exact (SD.2 j new[j] v (List.getElem?_eq_getElem (by omega)) (by simpa using hj)).2
 obtain ⟨w',k1,k2,k3,k4⟩:=Iu (P:=P) a3 (i*sz+o) u.cells.toList (by omega) UW
 have od:=FO (us:=u.cells.toList) (new:=new) (off:=o) a5 a3.1 (xZ hi) (by omega) P1 (λj c v wX hv=>SD.2 j c v wX (by simpa using hv))
 rw[ha] at od
 have tU:(l.map row).set i (row a)=(l.set i a).map row:=by rw[List.map_set]
 rw[tU] at od
 obtain ⟨g',q1,q2,q3,q4⟩:=hinv.JW (x':=⟨e',sz,n,some ((l.set i a).map row)⟩) (v':=g.tk tk) (w':=w') dO (by rw[a1];exact k2) (.inl ⟨rfl,k4,by rw[a1];exact k3⟩) (λhh=>by cases hh) (λrows _ aY _=>⟨rfl,Nat.le_refl _,λ_=>rfl⟩) (λrows hh=>by cases hh;exact od)
 refine ⟨g',w',?_,q3,q4⟩
 obtain ⟨inf,vO,Bw⟩:∃ inf,P.info? t=some inf/\inf.size=m:=by
  cases hh:P.info? t with
  | none=>rw[hh] at hs;cases hs
  | some inf=>rw[hh] at hs;exact ⟨inf,rfl,by simpa using hs⟩
 have UF:u.cells.size=m:=by have:=SD.1;omega
 simp[execOp,hu,a2,Instr.storeAt,Instr.sureAddr,storeVar,sizeOf,typeInfo,vO,Bw,UF,k1]
end sl
end rules
end Go.Abs
