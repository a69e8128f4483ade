/- Our own texts of this seat. -/
import Derived.WalkKit
import Derived.Below
import Derived.Lib.ItoaNum
import Derived.AtR
import Derived.Defers
import Derived.Laws.RangeString
import Derived.Laws.RangeAny
import Derived.Laws.MakeOwn
import Derived.Laws.CopyRow
import Derived.ChangeKeysEq
import Derived.Lib.AppendZerosOnto
import Derived.Lib.Walk
import Derived.Shelf.RegionOpenPlain
import Derived.Lib.Overlaps
import Derived.Lib.SliceRun
import Derived.Lib.JoinLaws
import Derived.RangeFuncLeaves
import Derived.RangeFuncRecord
set_option linter.unusedSimpArgs false
set_option linter.unusedVariables false
set_option linter.unusedSectionVars false
set_option linter.constructorNameAsVariable false
set_option maxRecDepth 100000
set_option maxHeartbeats 1000000
namespace Go
abbrev O:=List
abbrev J:=Option
abbrev uA:=UInt8
abbrev uB:=Value
abbrev uC:=World
abbrev uD:=Array
abbrev uE:=TypeId
abbrev uF:=Program
abbrev uG:=Operand
end Go
namespace Go
abbrev zaa:=@List.getElem?_eq_some_iff
abbrev zab:=@Nat.le_refl
abbrev zac:=@Nat.le_of_ble_eq_true
abbrev zad:=@List.getElem?_eq_getElem
abbrev zae:=@Nat.eq_of_beq_eq_true
abbrev zaf:=@Bool.and_eq_true
abbrev zag:=@Nat.lt_of_lt_of_le
abbrev zah:=@Array.getD_eq_getD_getElem?
abbrev zai:=@List.getElem?_take
abbrev zaj:=@if_neg
abbrev zak:=@List.getElem?_append_left
abbrev zal:=@Bool.false_eq_true
abbrev zam:=@if_pos
abbrev zan:=@List.eq_nil_of_length_eq_zero
abbrev zao:=@congrArg
abbrev zap:=@List.getElem?_map
abbrev zaq:=@List.mem_of_getElem?
abbrev zar:=@Array.getElem?_setIfInBounds
abbrev zas:=@List.all_eq_true
abbrev zat:=@Option.bind_some
abbrev zau:=@Nat.le_trans
abbrev zav:=@List.getElem?_append_right
abbrev zaw:=@of_decide_eq_true
abbrev zax:=@Option.isSome_iff_exists
abbrev zay:=@Nat.add_assoc
abbrev zaz:=@Array.getElem?_eq_some_iff
abbrev zba:=@Nat.zero_le
abbrev zbb:=@List.length_append
abbrev zbc:=@List.length_cons
abbrev zbd:=@Nat.zero_add
abbrev zbe:=@Ne.symm
abbrev zbf:=@List.mem_of_mem_take
abbrev zbg:=@List.mem_of_mem_drop
abbrev zbh:=@List.getD_eq_getElem?_getD
abbrev zbi:=@List.mem_cons
abbrev zbj:=@Nat.mod_two_eq_zero_or_one
abbrev zbk:=@Option.map_eq_some_iff
abbrev zbl:=@List.getElem?_set
abbrev zbm:=@decide_eq_true_eq
abbrev zbn:=@List.getElem?_eq_none
abbrev zbo:=@List.getElem?_toArray
abbrev zbp:=@List.getElem?_drop
abbrev zbq:=@List.mem_append
abbrev zbr:=@List.append_nil
abbrev zbs:=@Bool.or_eq_true
abbrev zbt:=@Nat.lt_succ_self
abbrev zbu:=@Nat.mul_le_mul_right
abbrev zbv:=@Nat.beq_refl
abbrev zbw:=@List.mem_filter
abbrev zbx:=@List.length_map
abbrev zby:=@List.mem_cons_of_mem
abbrev zbz:=@Array.length_toList
abbrev zca:=@List.filter_cons
abbrev zcb:=@Nat.add_mul
abbrev zcc:=@Array.getElem?_toList
abbrev zcd:=@Array.getElem?_append_left
abbrev zce:=@Nat.le_succ
abbrev zcf:=@if_true
abbrev zcg:=@Nat.add_comm
abbrev zch:=@List.length_drop
abbrev zci:=@Option.bind_none
abbrev zcj:=@List.map_cons
abbrev zck:=@List.take_of_length_le
abbrev zcl:=@List.drop_of_length_le
abbrev zcm:=@List.append_assoc
abbrev zcn:=@Int.toNat_natCast
abbrev zco:=@List.length_take
abbrev zcp:=@if_false
abbrev zcq:=@Array.getElem?_setIfInBounds_self_of_lt
abbrev zcr:=@Nat.add_zero
abbrev zcs:=@List.mem_map
abbrev zct:=@Array.ext'
abbrev zcu:=@Nat.add_sub_cancel_left
abbrev zcv:=@List.size_toArray
abbrev zcw:=@Array.getElem?_eq_none
abbrev zcx:=@List.drop_append
abbrev zcy:=@Array.toList_map
abbrev zcz:=@Nat.ble_eq_true_of_le
abbrev zda:=@List.length_pos_iff
abbrev zdb:=@List.filter_eq_self
abbrev zdc:=@List.modify_toArray
end Go
namespace Go.Abs
def GL:List (Nat×uD uB):=[(1,(Go.Lib.pow10Tab.map λz=>Value.int .u64 z).toArray)]
def GI:List Nat:=[0]
end Go.Abs
namespace Go.Abs
open Go.RowKit
inductive D where
 | ex (v:uB)
 | agg (cs:List D)
 | fX (cs:List D)
 | sl (sz:Nat) (rows:List (List D))
 | ro (cs:List D)
 | e0 (sz:Nat)
 | any
inductive aJ (ae:Nat->Nat) (w:uC):D->uB->Prop where
 | ex (v:uB):aJ ae w (.ex v) v
 | agg (cs:List D) (vs:uD uB) (hs:vs.size=cs.length)
   (h1:∀ (i:Nat) (u:uB),vs[i]?=some u->u.oneCell'=true)
   (h:∀ (i:Nat) c (u:uB),cs[i]?=some c->vs[i]?=some u->aJ ae w c u):aJ ae w (.agg cs) (.agg vs)
 | fX (cs:List D) (vs:uD uB) (hs:vs.size=cs.length)
   (h:∀ (i:Nat) c (u:uB),cs[i]?=some c->vs[i]?=some u->aJ ae w c u):aJ ae w (.fX cs) (.tuple vs)
 | nil (sz:Nat) (A:Option Addr):aJ ae w (.sl sz []) (.slice A 0 0)
 | sl (sz:Nat) (rows:List (List D)) (b off cap:Nat) (hc:rows.length<=cap) (hr:∀ row,row∈rows->row.length=sz)
   (hx:∀ k,k<rows.length*sz->off+k<ae b/\∃ u:uB,w.cell? ⟨b,off+k,none⟩=some u/\u.oneCell'=true)
   (h:∀ (i j:Nat) row c (u:uB),rows[i]?=some row->row[j]?=some c->w.cell? ⟨b,off+(i*sz+j),none⟩=some u->aJ ae w c u) :
   aJ ae w (.sl sz rows) (.slice (some ⟨b,off,none⟩) rows.length cap)
 | ro (cs:List D) (b off:Nat)
   (hx:∀ k,k<cs.length->off+k<ae b/\∃ u:uB,w.cell? ⟨b,off+k,none⟩=some u/\u.oneCell'=true)
   (h:∀ (j:Nat) c (u:uB),cs[j]?=some c->w.cell? ⟨b,off+j,none⟩=some u->aJ ae w c u):aJ ae w (.ro cs) (.pointer (some ⟨b,off,none⟩))
 | e0 (sz:Nat) (A:Option Addr) (h:A=none∨∃ b off,A=some ⟨b,off,none⟩):aJ ae w (.e0 sz) (.slice A 0 0)
 | any (v:uB):aJ ae w .any v
structure mR (l:Nat->Nat) (w:uC) (l':Nat->Nat) (w':uC):Prop where
 size:w.heap.size<=w'.heap.size
 ae:∀ b:Nat,b<w.heap.size->l b<=l' b
 cell:∀ b off:Nat,b<w.heap.size->off<l b->w'.cell? ⟨b,off,none⟩=w.cell? ⟨b,off,none⟩
theorem mR.refl (ae:Nat->Nat) (w:uC):mR ae w ae w:=⟨zab _,λ_ _=>zab _,λ_ _ _ _=>rfl⟩
theorem mR.trans {l1 l2 l3:Nat->Nat} {w1 w2 w3:uC} (h:mR l1 w1 l2 w2) (k:mR l2 w2 l3 w3):mR l1 w1 l3 w3 :=
 ⟨zau h.size k.size,λb hb=>zau (h.ae b hb) (k.ae b (zag hb h.size)),
  λb off hb ho=>(k.cell b off (zag hb h.size) (zag ho (h.ae b hb))).trans (h.cell b off hb ho)⟩
theorem n5 {i j n sz:Nat} (hi:i<n) (hj:j<sz):i*sz+j<n*sz:=by
 have:(i+1)*sz<=n*sz:=zbu sz hi
 rw[zcb] at this
 omega
theorem aJ.mono {ae aC:Nat->Nat} {w w':uC} (e:mR ae w aC w') {x:D} {v:uB} (h:aJ ae w x v):aJ aC w' x v:=by
 induction h with
 | ex v=>exact .ex v
 | agg cs vs hs h1 _ ih=>exact .agg cs vs hs h1 ih
 | fX cs vs hs _ ih=>exact .fX cs vs hs ih
 | nil sz A=>exact .nil sz A
 | sl sz rows b off cap hc hr hx _ ih =>
  have bG:∀ k,k<rows.length*sz->w'.cell? ⟨b,off+k,none⟩=w.cell? ⟨b,off+k,none⟩:=by
   intro k hk
   obtain ⟨hl,u,hu,_⟩:=hx k hk
   exact e.cell b (off+k) (World.block_lt_of_cell? w _ hu) hl
  refine .sl sz rows b off cap hc hr ?_ ?_
  ·intro k hk
   obtain ⟨hl,u,hu,h1⟩:=hx k hk
   exact ⟨zag hl (e.ae b (World.block_lt_of_cell? w _ hu)),u,(bG k hk).trans hu,h1⟩
  ·intro i j row c u hi hj hu
   refine ih i j row c u hi hj ?_
   rw[←bG (i*sz+j) ?_]
   ·exact hu
   ·have hl:=hr row (zaq hi)
    exact n5 (zaa.1 hi).1 (by rw[←hl];exact (zaa.1 hj).1)
 | ro cs b off hx _ ih =>
  have bG:∀ k,k<cs.length->w'.cell? ⟨b,off+k,none⟩=w.cell? ⟨b,off+k,none⟩:=by
   intro k hk
   obtain ⟨hl,u,hu,_⟩:=hx k hk
   exact e.cell b (off+k) (World.block_lt_of_cell? w _ hu) hl
  refine .ro cs b off ?_ ?_
  ·intro k hk
   obtain ⟨hl,u,hu,h1⟩:=hx k hk
   exact ⟨zag hl (e.ae b (World.block_lt_of_cell? w _ hu)),u,(bG k hk).trans hu,h1⟩
  ·intro j c u hj hu
   refine ih j c u hj ?_
   rw[←bG j (zaa.1 hj).1]
   exact hu
 | e0 sz A h=>exact .e0 sz A h
 | any v=>exact .any v
inductive EV where
 | d (x:D)
 | ref (o off:Nat)
 | kN (o off len cap:Nat)
 | cF (sz:Nat) (rows:List (List D)) (t:Nat)
 | mp (o:Nat)
 | kO (f:FuncId) (z7:List EV)
 | agg (cs:List EV)
 | fX (cs:List EV)
 | gd (b:Bool) (x:EV)
  | vc (t k:Nat)
  | vp (t k i off:Nat)
  | vw (t k lo n:Nat)
structure bU where
 e:uE
 sz:Nat
 n:Nat
 own:Option (List (List D))
inductive fj where
 | row (ty:uE) (cs:List EV)
 | map (es:List (uB×EV))
 | raw (x:Obj)
 | gone
structure St where
 ak:List fj
 aa:List bU
structure aw where
 ae:Nat->Nat
 ob:Nat->Nat
 tk:Nat->uB
def zj (v:uB) (n:Nat):Prop:=n=0/\∃ A,v=.slice A 0 0
inductive ai (g:aw) (w:uC) (st:St):EV->uB->Prop where
 | d (x:D) (v:uB) (h:aJ g.ae w x v):ai g w st (.d x) v
 | ref (o off:Nat) (h:o<st.ak.length):ai g w st (.ref o off) (.pointer (some ⟨g.ob o,off,none⟩))
 | kN (o off len cap:Nat) (h:o<st.ak.length):ai g w st (.kN o off len cap) (.slice (some ⟨g.ob o,off,none⟩) len cap)
 | cF (sz:Nat) (rows:List (List D)) (t:Nat) (v:uB) (e:uE) (n:Nat) (hd:aJ g.ae w (.sl sz rows) v) (ht:st.aa[t]?=some ⟨e,sz,n,none⟩)
   (hn:rows.length<=n) (hv:rows.length=n->v=g.tk t∨zj v n):ai g w st (.cF sz rows t) v
 | mp (o:Nat) (h:o<st.ak.length):ai g w st (.mp o) (.map (some (g.ob o)))
 | kO (f:FuncId) (cs:List EV) (vs:uD uB) (hs:vs.size=cs.length)
   (h:∀ (i:Nat) c (u:uB),cs[i]?=some c->vs[i]?=some u->ai g w st c u):ai g w st (.kO f cs) (.func (.func f) #[] vs)
 | agg (cs:List EV) (vs:uD uB) (hs:vs.size=cs.length) (h1:∀ (i:Nat) (u:uB),vs[i]?=some u->u.oneCell'=true)
   (h:∀ (i:Nat) c (u:uB),cs[i]?=some c->vs[i]?=some u->ai g w st c u):ai g w st (.agg cs) (.agg vs)
 | fX (cs:List EV) (vs:uD uB) (hs:vs.size=cs.length)
   (h:∀ (i:Nat) c (u:uB),cs[i]?=some c->vs[i]?=some u->ai g w st c u):ai g w st (.fX cs) (.tuple vs)
 | gd (b:Bool) (x:EV) (v:uB) (h0:b=false->v=undef) (h:b=true->ai g w st x v):ai g w st (.gd b x) v
 | vc (t k:Nat) (v:uB) (ht:t<st.aa.length) (hf:∃ A n c,v=.slice A n c) (h:∀ x rows,st.aa[t]?=some x->x.own=some rows->k<=x.n/\(k=x.n->v=g.tk t∨zj v x.n)):ai g w st (.vc t k) v
 | vp (t k i off:Nat) (v:uB) (ht:t<st.aa.length) (hf:∃ b o,v=.pointer (some ⟨b,o,none⟩))
   (h:∀ x rows,st.aa[t]?=some x->x.own=some rows->k<=x.n/\(k=x.n->∃ b n c,g.tk t=.slice (some ⟨b,0,none⟩) n c/\v=.pointer (some ⟨b,i*x.sz+off,none⟩))):ai g w st (.vp t k i off) v
 | vw (t k lo n:Nat) (v:uB) (ht:t<st.aa.length) (hf:∃ A c,v=.slice A n c)
   (h:∀ x rows,st.aa[t]?=some x->x.own=some rows->k<=x.n/\(k=x.n->n=0∨∃ b m c c',g.tk t=.slice (some ⟨b,0,none⟩) m c/\v=.slice (some ⟨b,lo*x.sz,none⟩) n c')):ai g w st (.vw t k lo n) v
structure fY (g:aw) (w:uC) (st:St) (g':aw) (w':uC) (aI:St):Prop where
 bX:mR g.ae w g'.ae w'
 ob:∀ o,o<st.ak.length->g'.ob o=g.ob o
 ak:st.ak.length<=aI.ak.length
 aa:∀ t e sz n,st.aa[t]?=some ⟨e,sz,n,none⟩->∃ n',aI.aa[t]?=some ⟨e,sz,n',none⟩/\n<=n'/\(n'=n->g'.tk t=g.tk t)
 mS:st.aa.length<=aI.aa.length
 own:∀ t x' ab,t<st.aa.length->aI.aa[t]?=some x'->x'.own=some ab->∃ x rows,st.aa[t]?=some x/\x.own=some rows/\x.sz=x'.sz/\x.n<=x'.n/\(x.n=x'.n->g'.tk t=g.tk t)
theorem jU {g g':aw} {st aI:St} (hs:∀ t x' ab,t<st.aa.length->aI.aa[t]?=some x'->x'.own=some ab->st.aa[t]?=some x'/\g'.tk t=g.tk t) :
  ∀ t x' ab,t<st.aa.length->aI.aa[t]?=some x'->x'.own=some ab->∃ x rows,st.aa[t]?=some x/\x.own=some rows/\x.sz=x'.sz/\x.n<=x'.n/\(x.n=x'.n->g'.tk t=g.tk t) :=
 λt x' ab aG hx ho=>⟨x',ab,(hs t x' ab aG hx ho).1,ho,rfl,zab _,λ_=>(hs t x' ab aG hx ho).2⟩
theorem fY.refl (g:aw) (w:uC) (st:St):fY g w st g w st :=
 ⟨.refl _ _,λ_ _=>rfl,zab _,λ_ _ _ n h=>⟨n,h,zab _,λ_=>rfl⟩,zab _,jU λ_ _ _ _ h _=>⟨h,rfl⟩⟩
theorem fY.trans {g1 g2 g3:aw} {w1 w2 w3:uC} {s1 s2 s3:St} (h:fY g1 w1 s1 g2 w2 s2) (k:fY g2 w2 s2 g3 w3 s3):fY g1 w1 s1 g3 w3 s3:=by
 refine ⟨h.bX.trans k.bX,λo ho=>(k.ob o (zag ho h.ak)).trans (h.ob o ho),zau h.ak k.ak,λt e sz n ht=>?_,zau h.mS k.mS,λt z8 s6 aG hx ho=>?_⟩
 rotate_left
 ·obtain ⟨x',ab,a1,a2,a3,a4,a5⟩:=k.own t z8 s6 (zag aG h.mS) hx ho
  obtain ⟨x,rows,b1,b2,b3,b4,b5⟩:=h.own t x' ab aG a1 a2
  exact ⟨x,rows,b1,b2,b3.trans a3,zau b4 a4,λe=>(a5 (by omega)).trans (b5 (by omega))⟩
 obtain ⟨n',h1,h2,h3⟩:=h.aa t e sz n ht
 obtain ⟨Aa,k1,k2,k3⟩:=k.aa t e sz n' h1
 refine ⟨Aa,k1,zau h2 k2,λhn=>?_⟩
 have e1:n'=n:=by omega
 subst e1
 exact (k3 hn).trans (h3 rfl)
theorem ai.mono {g g':aw} {w w':uC} {st aI:St} (e:fY g w st g' w' aI) {x:EV} {v:uB} (h:ai g w st x v):ai g' w' aI x v:=by
 induction h with
 | d x v h=>exact .d x v (h.mono e.bX)
 | ref o off h=>rw[←e.ob o h];exact .ref o off (zag h e.ak)
 | kN o off len cap h=>rw[←e.ob o h];exact .kN o off len cap (zag h e.ak)
 | cF sz rows t v el n hd ht hn hv =>
  obtain ⟨n',h1,h2,h3⟩:=e.aa t el sz n ht
  refine .cF sz rows t v el n' (hd.mono e.bX) h1 (zau hn h2) (λhr=>?_)
  have e1:n'=n:=by omega
  subst e1
  exact (hv hr).imp (·.trans (h3 rfl).symm) id
 | mp o h=>rw[←e.ob o h];exact .mp o (zag h e.ak)
 | kO f cs vs hs _ ih=>exact .kO f cs vs hs ih
 | agg cs vs hs h1 _ ih=>exact .agg cs vs hs h1 ih
 | fX cs vs hs _ ih=>exact .fX cs vs hs ih
 | gd b x v h0 _ ih=>exact .gd b x v h0 ih
 | vc t k v ht hf h =>
  refine .vc t k v (zag ht e.mS) hf λx' ab hx ho=>?_
  obtain ⟨x,rows,b1,b2,_,b4,b5⟩:=e.own t x' ab ht hx ho
  obtain ⟨c1,c2⟩:=h x rows b1 b2
  exact ⟨by omega,λhk=>by
   have e1:x.n=x'.n:=by omega
   have:=c2 (by omega)
   rw[e1] at this
   exact this.imp (·.trans (b5 e1).symm) id⟩
 | vp t k i off v ht hf h =>
  refine .vp t k i off v (zag ht e.mS) hf λx' ab hx ho=>?_
  obtain ⟨x,rows,b1,b2,b3,b4,b5⟩:=e.own t x' ab ht hx ho
  obtain ⟨c1,c2⟩:=h x rows b1 b2
  exact ⟨by omega,λhk=>by
   obtain ⟨b,n,c,d1,d2⟩:=c2 (by omega)
   exact ⟨b,n,c,(b5 (by omega)).trans d1,by rw[←b3];exact d2⟩⟩
 | vw t k lo n v ht hf h =>
  refine .vw t k lo n v (zag ht e.mS) hf λx' ab hx ho=>?_
  obtain ⟨x,rows,b1,b2,b3,b4,b5⟩:=e.own t x' ab ht hx ho
  obtain ⟨c1,c2⟩:=h x rows b1 b2
  exact ⟨by omega,λhk=>by
   rcases c2 (by omega) with hz|⟨b,m,c,c',d1,d2⟩
   ·exact .inl hz
   ·exact .inr ⟨b,m,c,c',(b5 (by omega)).trans d1,by rw[←b3];exact d2⟩⟩
def St.live (st:St) (o:Nat):Prop:=∃ x,st.ak[o]?=some x/\x≠.gone
def aO (B:Nat) (w:uC):Prop:=(∀ x∈GL,x.1<B/\∃ ty fr,w.heap[x.1]?=some (.cells x.2 ty fr))/\∀ k∈GI,k<B/\∃ m,w.cell? ⟨k,0,none⟩=some (.int .i64 m)
theorem aO.below {B:Nat} {w w':uC} (h:aO B w) (hb:Below B w w'):aO B w':=⟨λx hx =>
 let ⟨h1,ty,fr,h2⟩:=h.1 x hx
 ⟨h1,ty,fr,(hb.block _ h1).trans h2⟩,λk hk =>
 let ⟨h1,m,h2⟩:=h.2 k hk
 ⟨h1,m,(hb.cell (p:=⟨k,0,none⟩) h1).trans h2⟩⟩
theorem aO.mono {B B':Nat} {w:uC} (h:aO B w) (hb:B<=B'):aO B' w:=⟨λx hx =>
 let ⟨h1,h2⟩:=h.1 x hx
 ⟨zag h1 hb,h2⟩,λk hk =>
 let ⟨h1,h2⟩:=h.2 k hk
 ⟨zag h1 hb,h2⟩⟩
structure dE (ae:Nat->Nat) (w:uC) (sz n:Nat) (rows:List (List D)) (xs:List uB):Prop where
 len:rows.length=n
 row:∀ r,r∈rows->r.length=sz
 rep:∀ (i:Nat) c (u:uB),rows.flatten[i]?=some c->xs[i]?=some u->aJ ae w c u/\u.oneCell'=true
theorem dE.mono {ae aC:Nat->Nat} {w w':uC} {sz n:Nat} {rows:O (O D)} {xs:O uB} (h:dE ae w sz n rows xs) (e:mR ae w aC w'):dE aC w' sz n rows xs :=
 ⟨h.len,h.row,λi c u a b=>⟨(h.rep i c u a b).1.mono e,(h.rep i c u a b).2⟩⟩
structure Inv (g:aw) (B:Nat) (w:uC) (st:St):Prop where
 base:B<=w.heap.size
 row:∀ o ty cs,st.ak[o]?=some (.row ty cs)->B<=g.ob o/\g.ae (g.ob o)=0 /\
  ∃ vs:uD uB,w.heap[g.ob o]?=some (.cells vs ty (0,0))/\vs.size=cs.length/\∀ (i:Nat) c (u:uB),cs[i]?=some c->vs[i]?=some u->ai g w st c u/\u.oneCell'=true
 map:∀ o es,st.ak[o]?=some (.map es)->B<=g.ob o /\
  ∃ (ms:uD MapEntry) (clock:Nat),w.heap[g.ob o]?=some (.map ms clock)/\ms.size=es.length /\
   (∀ (i:Nat) k x (m:MapEntry),es[i]?=some (k,x)->ms[i]?=some m->m.key=k/\ai g w st x m.val) /\
   (∀ (i:Nat) (m:MapEntry),ms[i]?=some m->m.born<clock) /\
   (∀ (i j:Nat) (m m':MapEntry),ms[i]?=some m->ms[j]?=some m'->m.born=m'.born->i=j)
 raw:∀ o x,st.ak[o]?=some (.raw x)->B<=g.ob o/\g.ae (g.ob o)=0/\w.heap[g.ob o]?=some x
 ne:∀ o o',o≠o'->st.live o->st.live o'->g.ob o≠g.ob o'
 tail:∀ t e sz n,st.aa[t]?=some ⟨e,sz,n,none⟩->∃ xs,w.ownsRow B e sz (g.tk t) n xs/\∀ b,(g.tk t).ownBlock=some b->g.ae b=n*sz
 ed:∀ t t' x x' b,t≠t'->st.aa[t]?=some x->st.aa[t']?=some x'->(g.tk t).ownBlock=some b->(g.tk t').ownBlock≠some b
 cN:∀ t x o,st.aa[t]?=some x->st.live o->(g.tk t).ownBlock≠some (g.ob o)
 eE:aO B w
 own:∀ t e sz n rows,st.aa[t]?=some ⟨e,sz,n,some rows⟩->∃ xs,w.ownsRow B e sz (g.tk t) n xs/\(∀ b,(g.tk t).ownBlock=some b->g.ae b=0)/\dE g.ae w sz n rows xs
theorem Inv.qA {g:aw} {B:Nat} {w:uC} {st:St} (h:Inv g B w st) {t:Nat} {x:bU} (hx:st.aa[t]?=some x):∃ xs,w.ownsRow B x.e x.sz (g.tk t) x.n xs:=by
 obtain ⟨e,sz,n,own⟩:=x
 cases own with
 | none=>obtain ⟨xs,h1,_⟩:=h.tail t e sz n hx;exact ⟨xs,h1⟩
 | some rows=>obtain ⟨xs,h1,_⟩:=h.own t e sz n rows hx;exact ⟨xs,h1⟩
theorem Inv.gh {g:aw} {B:Nat} {w:uC} {st:St} (h:Inv g B w st) {t:Nat} {x:bU} (hx:st.aa[t]?=some x) {b:Nat} (hb:(g.tk t).ownBlock=some b):B<=b/\b<w.heap.size:=by
 obtain ⟨xs,h1⟩:=h.qA hx;exact h1.lt b hb
theorem bB {w w':uC} {B e sz n:Nat} {v:uB} {xs:O uB} (h:w.ownsRow B e sz v n xs) (hb:∀ b,v.ownBlock=some b->w'.heap[b]?=w.heap[b]?):w'.ownsRow B e sz v n xs:=by
 obtain ⟨k1,k2⟩:=h
 refine ⟨k1,?_⟩
 rcases k2 with k2|⟨gb,cap,cur,e1,e2,e3,e4⟩
 ·exact .inl k2
 ·exact .inr ⟨gb,cap,cur,e1,e2,by rw[hb gb (by rw[e1];rfl)];exact e3,e4⟩
def eF (g:aw) (st:St) (b:Nat):Prop:=(∃ o,st.live o/\g.ob o=b)∨(∃ t x,st.aa[t]?=some x/\(g.tk t).ownBlock=some b)
abbrev Env:=List (Nat×EV)
def lookup (i:Nat):Env->Option EV
 | []=>none
 | (j,x)::e=>match Nat.beq i j with
  | true=>some x
  | false=>lookup i e
def aH (g:aw) (w:uC) (st:St) (env:Env) (tmps:uD uB):Prop :=
 ∀ i x,lookup i env=some x->∃ v:uB,tmps[i]?=some v/\ai g w st x v
theorem aH.mono {g g':aw} {w w':uC} {st aI:St} {env:Env} {tmps:uD uB} (e:fY g w st g' w' aI) (h:aH g w st env tmps):aH g' w' aI env tmps :=
 λi x hx=>let ⟨v,h1,h2⟩:=h i x hx;⟨v,h1,h2.mono e⟩
theorem aH.put {g:aw} {w:uC} {st:St} {env:Env} {tmps:uD uB} {d:Nat} {x:EV} {v:uB} (h:aH g w st env tmps) (hd:d<tmps.size) (hv:ai g w st x v) :
  aH g w st ((d,x)::env) (tmps.setIfInBounds d v):=by
 intro i y hy
 unfold lookup at hy
 by_cases hi:i=d
 ·subst hi
  have:Nat.beq i i=true:=zbv i
  rw[this] at hy
  simp only[Option.some.injEq] at hy
  subst hy
  exact ⟨v,by simp[hd],hv⟩
 ·have:Nat.beq i d=false:=by
   cases hb:Nat.beq i d with
   | false=>rfl
   | true=>exact absurd (zae hb) hi
  rw[this] at hy
  obtain ⟨u,h1,h2⟩:=h i y hy
  exact ⟨u,by simp[zar,zbe hi,h1],h2⟩
structure Start where
 g:aw
 w:uC
 st:St
 base:Nat
structure eG (S:Start) (g:aw) (w:uC) (st:St):Prop where
 bn:fY S.g S.w S.st g w st
 below:Below S.base S.w w
 ae:∀ b,b<S.base->g.ae b=S.g.ae b
 frame:∀ b,b<S.w.heap.size->¬ eF S.g S.st b->w.heap[b]?=S.w.heap[b]?/\g.ae b=S.g.ae b
 fresh:∀ b,b<S.w.heap.size->eF g st b->eF S.g S.st b
def dS (S:Start) (Q:EV->St->Prop) (e:Ending) (w:uC):Prop :=
 ∃ v r st g,e=.returned v/\Q r st/\ai g w st r v/\Inv g S.base w st/\eG S g w st
structure Ctx where
 fn:FuncId
 ds:List Deferred
 ro:Option Nat
 dk:Bool
@[reducible] def Ctx.of (f:FuncId):Ctx:=⟨f,[],none,false⟩
def bf (f:Ctx):Frame:={ (default:Frame) with fn:=f.fn,kind:=(match f.dk with|true=>.deferred|false=>.normal),roundOf:=f.ro }
def Ctx.fin (P:uF) (f:Ctx) (fr:Frame) (w:uC) (e:Ending):Prop :=
 match f.ro with
 | none=>match f.dk with
  | false=>fr.fn=f.fn/\fr.leaving P w e
  | true=>fr.kind=.deferred/\fr.going P w e
 | some _=>e=.returned (.bool true)/\∃ tmps,fr=(bf f).atR ⟨tmps,f.ds⟩ []
def ag (P:uF) (f:Ctx) (R:Ending->uC->Prop) (todo:List Item) (tmps:uD uB) (w:uC):Prop :=
 ∀ cs,∃ e w' fr,R e w'/\Comes P (lone ((bf f).atR ⟨tmps,f.ds⟩ todo) cs w) (lone fr cs w') e/\f.fin P fr w' e
theorem ag.step {P:uF} {f:Ctx} {R:Ending->uC->Prop} {todo sc:O Item} {tmps dT:uD uB} {w w':uC}
  (h:∀ cs,step P (lone ((bf f).atR ⟨tmps,f.ds⟩ todo) cs w)=.next (lone ((bf f).atR ⟨dT,f.ds⟩ sc) cs w')) (k:ag P f R sc dT w'):ag P f R todo tmps w:=by
 intro cs
 obtain ⟨e,w2,fr,hR,hc,h1⟩:=k cs
 exact ⟨e,w2,fr,hR,Comes.of_steps (.one (h cs)) hc,h1⟩
theorem ag.mono {P:uF} {f:Ctx} {R R':Ending->uC->Prop} {todo:O Item} {tmps:uD uB} {w:uC} (h:ag P f R todo tmps w) (hr:∀ e w,R e w->R' e w):ag P f R' todo tmps w :=
 λcs=>let ⟨e,w',fr,a,b,c⟩:=h cs;⟨e,w',fr,hr _ _ a,b,c⟩
theorem eH {ro:J Nat} {ρ:uG->uB} {o:Oper} {P:uF} {w w':uC} {x:Next} (hr:(execOp ρ o).run P w=.ok x w') (hx:∀ d,x≠.defer d):Oper.semAt ro ρ o=execOp ρ o:=by
 refine Oper.semAt_eq ro ρ o λc hc=>?_
 have:∀ {x:Next} {w':uC},(execOp ρ o).run P w=.ok x w'->∃ d,x=.defer d:=by
  intro x w' h
  simp only[execOp,hc,Sem.run_bind] at h
  cases h2:(resolve ρ c o.type).run P w with
  | halt a b=>rw[h2] at h;cases h
  | ok d w2=>rw[h2] at h;simp at h;exact ⟨d,h.1.symm⟩
 obtain ⟨d,hd⟩:=this hr
 exact hx d hd
section ops
variable {P:uF} {f:Ctx} {R:Ending->uC->Prop} {k:List Item} {tmps:uD uB} {w:uC} {ops:uD Oper} {i:Nat} {rest:List Nat} {o:Oper}
theorem put_eq (ds:O Deferred) (dst:J Tmp) (v:uB):Act.put ⟨tmps,ds⟩ dst v=⟨(Act.put ⟨tmps,[]⟩ dst v).tmps,ds⟩:=by cases dst<;>rfl
theorem dF (ds:O Deferred) (tmps:uD uB):Act.eval ⟨tmps,ds⟩=Act.eval ⟨tmps,[]⟩:=by funext x;cases x<;>rfl
theorem ag.value {v:uB} {w':uC} (ho:ops[i]?=some o) (hw:Region.wanted o (yielded ops tmps)=true)
  (hr:(execOp (Act.eval ⟨tmps,[]⟩) o).run P w=.ok (.value v) w') (h:ag P f R (.inRegion ops rest::k) (Act.put ⟨tmps,[]⟩ o.dst v).tmps w') :
  ag P f R (.inRegion ops (i::rest)::k) tmps w:=by
 refine ag.step (λcs=>?_) h
 have hg:=stepGR_op (P:=P) (b:=bf f) (a:=⟨tmps,f.ds⟩) (k:=k) (cs:=cs) (w:=w) (rest:=rest) ho hw
 rw[dF,eH hr (by simp)] at hg
 have iS:∀ v,((bf f).atR ⟨tmps,f.ds⟩ (.inRegion ops (i::rest)::k)).finish v=(bf f).atR (Act.put ⟨tmps,f.ds⟩ o.dst v) (.inRegion ops rest::k):=by
  intro v;rw[Frame.finish_atR,ho];rfl
 refine step_lone_go ?_
 rw[←put_eq,hg,←iS]
 simp[stepG.apply,hr]
theorem ag.skip {w':uC} (ho:ops[i]?=some o) (hw:Region.wanted o (yielded ops tmps)=true)
  (hr:(execOp (Act.eval ⟨tmps,[]⟩) o).run P w=.ok .skip w') (h:ag P f R (.inRegion ops rest::k) (Act.put ⟨tmps,[]⟩ o.dst undef).tmps w') :
  ag P f R (.inRegion ops (i::rest)::k) tmps w:=by
 refine ag.step (λcs=>?_) h
 have hg:=stepGR_op (P:=P) (b:=bf f) (a:=⟨tmps,f.ds⟩) (k:=k) (cs:=cs) (w:=w) (rest:=rest) ho hw
 rw[dF,eH hr (by simp)] at hg
 have iS:∀ v,((bf f).atR ⟨tmps,f.ds⟩ (.inRegion ops (i::rest)::k)).finish v=(bf f).atR (Act.put ⟨tmps,f.ds⟩ o.dst v) (.inRegion ops rest::k):=by
  intro v;rw[Frame.finish_atR,ho];rfl
 refine step_lone_go ?_
 rw[←put_eq,hg,←iS]
 simp[stepG.apply,hr]
theorem ag.cG (ho:ops[i]?=some o) (hw:Region.wanted o (yielded ops tmps)=false)
  (h:ag P f R (.inRegion ops rest::k) (Act.put ⟨tmps,[]⟩ o.dst undef).tmps w):ag P f R (.inRegion ops (i::rest)::k) tmps w:=by
 refine ag.step (λcs=>?_) h
 have hs:=stepR_op_skip (P:=P) (b:=bf f) (a:=⟨tmps,f.ds⟩) (k:=k) (cs:=cs) (w:=w) (ops:=ops) (i:=i) (rest:=rest) (by simp[ho];simpa using hw)
 simp only[ho,zat] at hs
 rw[←put_eq]
 exact hs
theorem ag.call {f':FuncId} {args:uD uB} {w':uC} (ho:ops[i]?=some o) (hw:Region.wanted o (yielded ops tmps)=true)
  (hr:(execOp (Act.eval ⟨tmps,[]⟩) o).run P w=.ok (.enter f' args) w')
  (h:Calls P f' args w' λe w2=>∃ v,e=.returned v/\ag P f R (.inRegion ops rest::k) (Act.put ⟨tmps,[]⟩ o.dst v).tmps w2) :
  ag P f R (.inRegion ops (i::rest)::k) tmps w:=by
 intro cs
 have hg:=stepGR_op (P:=P) (b:=bf f) (a:=⟨tmps,f.ds⟩) (k:=k) (cs:=cs) (w:=w) (rest:=rest) ho hw
 rw[dF,eH hr (by simp)] at hg
 have iS:∀ v,((bf f).atR ⟨tmps,f.ds⟩ (.inRegion ops (i::rest)::k)).finish v=(bf f).atR (Act.put ⟨tmps,f.ds⟩ o.dst v) (.inRegion ops rest::k):=by
  intro v;rw[Frame.finish_atR,ho];rfl
 obtain ⟨e,w2,fr,⟨v,rfl,hF⟩,gq,_,kP⟩:=h ((bf f).atR ⟨tmps,f.ds⟩ (.inRegion ops (i::rest)::k)::cs)
 have cO:Go.step P (lone ((bf f).atR ⟨tmps,f.ds⟩ (.inRegion ops (i::rest)::k)) cs w) =
   .next (lone (Frame.enter P f' args .normal) ((bf f).atR ⟨tmps,f.ds⟩ (.inRegion ops (i::rest)::k)::cs) w') :=
  step_lone_go (by rw[hg];simp[stepG.apply,hr,Frame.atR])
 obtain ⟨e,w3,s7,hR,hc,h1⟩:=hF cs
 refine ⟨e,w3,s7,hR,Comes.of_steps (.head cO (gq.trans (.one ?_))) hc,h1⟩
 rw[←put_eq,←iS]
 exact step_leave_returned kP
theorem ag.iz (h:ag P f R k tmps w):ag P f R (.inRegion ops []::k) tmps w:=ag.step (λ_=>stepR_region_end) h
end ops
section control
variable {P:uF} {f:Ctx} {R:Ending->uC->Prop} {k:List Item} {tmps:uD uB} {w:uC}
theorem ag.seq {x y:Code} (h:ag P f R (.code x::.code y::k) tmps w):ag P f R (.code (.seq x y)::k) tmps w:=ag.step (λ_=>stepR_seq) h
theorem ag.vz (h:ag P f R k tmps w):ag P f R (.code .skip::k) tmps w:=ag.step (λ_=>stepR_skip) h
theorem ag.n6 {l:Nat} (h:ag P f R k tmps w):ag P f R (.code (.label l)::k) tmps w:=ag.step (λ_=>stepR_label) h
theorem ag.inBlock {id:Nat} (h:ag P f R k tmps w):ag P f R (.inBlock id::k) tmps w:=ag.step (λ_=>stepR_inBlock) h
theorem ag.block {id:Nat} {c:Code} (h:ag P f R (.code c::.inBlock id::k) tmps w):ag P f R (.code (.block id c)::k) tmps w:=ag.step (λ_=>stepR_block) h
theorem ag.loop {c:Code} (h:ag P f R (.code c::.inLoop c::k) tmps w):ag P f R (.code (.loop c)::k) tmps w:=ag.step (λ_=>stepR_loop) h
theorem ag.inLoop {c:Code} (h:ag P f R (.code c::.inLoop c::k) tmps w):ag P f R (.inLoop c::k) tmps w:=ag.step (λ_=>stepR_inLoop) h
theorem ag.exit {id:Nat} {k':O Item} (hk:exitTo id k=some k') (h:ag P f R k' tmps w):ag P f R (.code (.exit id)::k) tmps w:=ag.step (λ_=>stepR_exit hk) h
theorem ag.goto {l:Nat} {k':O Item} (hk:gotoIn l k=some k') (h:ag P f R k' tmps w):ag P f R (.code (.goto l)::k) tmps w:=ag.step (λ_=>stepR_goto hk) h
theorem ag.cond {c:uG} {x y:Code} {t:Bool} (hc:Act.eval ⟨tmps,[]⟩ c=.bool t) (h:ag P f R (.code (if t then x else y)::k) tmps w):ag P f R (.code (.cond c x y)::k) tmps w :=
 ag.step (λ_=>stepR_cond (by rw[dF];exact hc)) h
theorem ag.region {id:Nat} {ops:uD Oper} (h:ag P f R (.inRegion ops (List.range ops.size)::k) tmps w):ag P f R (.code (.region id ops false)::k) tmps w:=ag.step (λ_=>stepR_region) h
theorem ag.gu {id:Nat} {ops:uD Oper} (h:∀ t,ag P f R (.inRegion ops (Region.schedule (P.follows .mixedOrders) ops t)::k) tmps { w with drawn:=w.drawn+1 }) :
  ag P f R (.code (.region id ops true)::k) tmps w:=ag.step (λ_=>stepR_region_draw) (h _)
theorem ag.ret {f:FuncId} {fn:Func} {v:uB} (hf:P.funcs[f]?=some fn) (hr:(results fn tmps).run P w=.ok v w) (hR:R (.returned v) w):ag P (.of f) R (.code .ret::k) tmps w :=
 λcs=>⟨.returned v,w,_,hR,.one (stepR_ret rfl),rfl,rfl,rfl,rfl,fn,hf,hr⟩
theorem ag.fin {f:FuncId} {fn:Func} {v:uB} (hf:P.funcs[f]?=some fn) (hr:(results fn tmps).run P w=.ok v w) (hR:R (.returned v) w):ag P (.of f) R [] tmps w :=
 λcs=>⟨.returned v,w,_,hR,.one (stepR_end rfl),rfl,rfl,rfl,rfl,fn,hf,hr⟩
theorem ag.n7 {f:FuncId} {l:Nat} (hR:R (.returned (.bool true)) w):ag P ⟨f,[],some l,false⟩ R [] tmps w :=
 λcs=>⟨.returned (.bool true),w,_,hR,Steps.refl _ _,rfl,tmps,rfl⟩
theorem ag.calls {f:FuncId} {fn:Func} {c:Code} {args:uD uB} (hf:P.funcs[f]?=some fn) (hb:fn.body=some c)
  (h:ag P (.of f) R [.code c] (args++Array.replicate (fn.ntmps-args.size) undef) w):Calls P f args w R:=by
 intro cs
 have cO:Frame.enter P f args .normal=(bf (.of f)).atR ⟨args++Array.replicate (fn.ntmps-args.size) undef,[]⟩ [.code c]:=by
  simp[Frame.enter,Frame.atR,hf,hb,bf]
 obtain ⟨e,w',fr,hR,hc,h1,h2⟩:=h cs
 rw[←cO] at hc
 exact ⟨e,w',fr,hR,hc,h1,h2⟩
end control
structure Step (base:Nat) (g:aw) (w:uC) (st:St) (g':aw) (w':uC) (aI:St):Prop where
 bn:fY g w st g' w' aI
 below:Below base w w'
 ae:∀ b,b<base->g'.ae b=g.ae b
 frame:∀ b,b<w.heap.size->¬ eF g st b->w'.heap[b]?=w.heap[b]?/\g'.ae b=g.ae b
 fresh:∀ b,b<w.heap.size->eF g' aI b->eF g st b
theorem Step.refl (base:Nat) (g:aw) (w:uC) (st:St):Step base g w st g w st:=⟨.refl _ _ _,.refl _ _,λ_ _=>rfl,λ_ _ _=>⟨rfl,rfl⟩,λ_ _ h=>h⟩
theorem eG.step {S:Start} {g g':aw} {w w':uC} {st aI:St} (h:eG S g w st) (k:Step S.base g w st g' w' aI):eG S g' w' aI :=
 ⟨h.bn.trans k.bn,h.below.trans k.below,λb hb=>(k.ae b hb).trans (h.ae b hb),
  λb hb hn=>have k1:=k.frame b (zag hb h.bn.bX.size) (λho=>hn (h.fresh b hb ho));have h1:=h.frame b hb hn;⟨k1.1.trans h1.1,k1.2.trans h1.2⟩,
  λb hb ho=>h.fresh b hb (k.fresh b (zag hb h.bn.bX.size) ho)⟩
theorem eG.refl (S:Start):eG S S.g S.w S.st:=⟨.refl _ _ _,.refl _ _,λ_ _=>rfl,λ_ _ _=>⟨rfl,rfl⟩,λ_ _ h=>h⟩
def aQ (P:uF) (f:Ctx) (N:Nat) (S:Start) (Q:EV->St->Prop) (todo:List Item) (env:Env) (st:St):Prop :=
 ∀ g w tmps,Inv g S.base w st->eG S g w st->aH g w st env tmps->tmps.size=N->ag P f (dS S Q) todo tmps w
def cv:uB->D
 | .agg cs=>if cs.toList.all (·.oneCell') then .agg (cs.toList.map D.ex) else .ex (.agg cs)
 | v=>.ex v
theorem s8 (ae:Nat->Nat) (w:uC) (v:uB):aJ ae w (cv v) v:=by
 cases v<;>simp only[cv]<;>try exact .ex _
 rename_i cs
 split
 ·rename_i h
  refine .agg _ _ (by simp) ?_ ?_
  ·intro i u hu
   rw[zas] at h
   exact h u (by
    have:u∈cs:=Array.mem_of_getElem? hu
    simpa using this)
  ·intro i c u hc hu
   rw[zap] at hc
   have:cs.toList[i]?=some u:=by simpa using hu
   rw[this] at hc
   simp only[Option.map_some,Option.some.injEq] at hc
   subst hc
   exact .ex u
 ·exact .ex _
def bX (env:Env):uG->Option EV
 | .tmp t=>lookup t env
 | .const (.agg cs)=>match cs.toList.all (·.oneCell') with
  | true=>some (.d (.agg (cs.toList.map D.ex)))
  | false=>some (.d (.ex (.agg cs)))
 | .const v=>some (.d (.ex v))
 | .func f=>some (.d (.ex (.func (.func f) #[] #[])))
 | .global _=>none
theorem mT (env:Env) (v:uB):bX env (.const v)=some (.d (cv v)):=by
 cases v<;>try rfl
 rename_i cs
 simp only[bX,cv]
 cases cs.toList.all (·.oneCell')<;>rfl
theorem iT {g:aw} {w:uC} {st:St} {env:Env} {tmps:uD uB} (h:aH g w st env tmps) {x:uG} {e:EV} (hx:bX env x=some e):ai g w st e (Act.eval ⟨tmps,[]⟩ x):=by
 cases x with
 | tmp t =>
  obtain ⟨v,h1,h2⟩:=h t e hx
  simp only[Act.eval,zah,h1,Option.getD_some]
  exact h2
 | const v =>
  rw[mT,Option.some.injEq] at hx
  subst hx
  exact .d _ _ (s8 _ _ v)
 | func f =>
  simp only[bX,Option.some.injEq] at hx
  subst hx
  exact .d _ _ (.ex _)
 | «global» x=>simp[bX] at hx
section inv
variable {g:aw} {w:uC} {st:St} {v:uB}
theorem ai.iU {u:uB} (h:ai g w st (.d (.ex u)) v):v=u:=by
 cases h with|d _ _ h=>cases h;rfl
end inv
section control
variable {P:uF} {f:Ctx} {N:Nat} {S:Start} {Q:EV->St->Prop} {k:List Item} {env:Env} {st:St}
theorem aQ.label {l:Nat} (h:aQ P f N S Q k env st):aQ P f N S Q (.code (.label l)::k) env st:=λg w t a b c d=>.n6 (h g w t a b c d)
def bV (x y:EV):Prop:=∀ (g:aw) (w:uC) (st:St) (v:uB),ai g w st x v->ai g w st y v
theorem bV.qB (x:EV):bV x x:=λ_ _ _ _ h=>h
theorem bV.any (x:EV):bV x (.d .any):=λ_ _ _ v _=>.d _ _ (.any v)
theorem bV.cF (sz:Nat) (rows:O (O D)) (t:Nat):bV (.cF sz rows t) (.d (.sl sz rows)):=λ_ _ _ v h=>by cases h with|cF _ _ _ _ _ _ hd _ _ _=>exact .d _ _ hd
theorem D.n8 {ae:Nat->Nat} {w:uC} {sz:Nat} {v:uB} (h:aJ ae w (.e0 sz) v):aJ ae w (.sl sz []) v:=by
 cases h with
 | e0 _ A h =>
  rcases h with rfl|⟨b,off,rfl⟩
  ·exact .nil sz _
  ·exact .sl sz [] b off 0 (zab _) (by simp) (by simp) (by simp)
theorem bV.e0 (sz:Nat):bV (.d (.e0 sz)) (.d (.sl sz [])):=λ_ _ _ v h=>by cases h with|d _ _ h=>exact .d _ _ (D.n8 h)
theorem bV.eq {x y:EV} (h:x=y):bV x y:=h▸bV.qB x
def b6 (env:Env):Env->Prop
 | []=>True
 | (i,y)::t=>(∃ x,lookup i env=some x/\bV x y)/\b6 env t
theorem b6.get {env:Env}:∀ {ay:Env},b6 env ay->∀ i y,lookup i ay=some y->∃ x,lookup i env=some x/\bV x y
 | [],_,i,y,h=>by simp[lookup] at h
 | (j,z)::t,⟨⟨x,hx,hle⟩,ht⟩,i,y,h=>by
  unfold lookup at h
  cases hb:Nat.beq i j with
  | true =>
   rw[hb] at h
   simp only[Option.some.injEq] at h
   have:=zae hb
   subst this
   subst h
   exact ⟨x,hx,hle⟩
  | false =>
   rw[hb] at h
   exact ht.get i y h
theorem aH.sub {g:aw} {w:uC} {tmps:uD uB} {env ay:Env} (h:aH g w st env tmps) (hs:b6 env ay):aH g w st ay tmps:=by
 intro i y hy
 obtain ⟨x,hx,hle⟩:=hs.get i y hy
 obtain ⟨v,h1,h2⟩:=h i x hx
 exact ⟨v,h1,hle _ _ _ _ h2⟩
theorem aQ.sub {todo:O Item} {ay:Env} (hs:b6 env ay) (h:aQ P f N S Q todo ay st):aQ P f N S Q todo env st :=
 λg w t a b c d=>h g w t a b (c.sub hs) d
end control
def ba (P:uF) (f:Ctx) (N:Nat) (S:Start) (Q:EV->St->Prop) (ops rest:List Oper) (k:List Item) (env:Env) (st:St):Prop :=
 ∀ i,(∀ j:Nat,rest[j]?=ops[i+j]?)->aQ P f N S Q (.inRegion ops.toArray (List.range' i rest.length)::k) env st
def Env.put (env:Env):Option Tmp->EV->Env
 | some d,x=>(d,x)::env
 | none,_=>env
def aK (N:Nat):Option Tmp->Bool
 | some d=>Nat.ble (d+1) N
 | none=>true
theorem cP {g:aw} {w:uC} {st:St} {env:Env} {tmps:uD uB} {d:J Tmp} {x:EV} {v:uB} (h:aH g w st env tmps) (hd:aK tmps.size d=true) (hv:ai g w st x v) :
  aH g w st (env.put d x) (Act.put ⟨tmps,[]⟩ d v).tmps:=by
 cases d with
 | none=>exact h
 | some d=>exact h.put (zac hd) hv
theorem aZ {tmps:uD uB} {d:J Tmp} {v:uB}:(Act.put ⟨tmps,[]⟩ d v).tmps.size=tmps.size:=by
 cases d<;>simp[Act.put]
section regions
variable {P:uF} {f:Ctx} {N:Nat} {S:Start} {Q:EV->St->Prop} {k:List Item} {env:Env} {st:St} {ops rest:List Oper}
def ib (P:uF) (base:Nat) (env:Env) (st:St) (o:Oper) (x:EV) (aI:St):Prop :=
 ∀ g w tmps,Inv g base w st->aH g w st env tmps->∃ v g' w',(execOp (Act.eval ⟨tmps,[]⟩) o).run P w=.ok (.value v) w'/\ai g' w' aI x v/\Inv g' base w' aI/\Step base g w st g' w' aI
def kQ (P:uF) (base:Nat) (env:Env) (st:St) (o:Oper) (aI:St):Prop :=
 ∀ g w tmps,Inv g base w st->aH g w st env tmps->∃ g' w',(execOp (Act.eval ⟨tmps,[]⟩) o).run P w=.ok .skip w'/\Inv g' base w' aI/\Step base g w st g' w' aI
def kR (P:uF) (env:Env) (st:St) (o:Oper) (x:EV):Prop :=
 ∀ g base w tmps,Inv g base w st->aH g w st env tmps->∃ v,ai g w st x v/\∀ w',Below w.heap.size w w'->(execOp (Act.eval ⟨tmps,[]⟩) o).run P w'=.ok (.value v) w'
theorem kR.v {base:Nat} {o:Oper} {x:EV} (h:kR P env st o x):ib P base env st o x st :=
 λg w t a b=>let ⟨v,h1,h2⟩:=h g base w t a b;⟨v,g,w,h2 w (.refl _ _),h1,a,.refl _ _ _ _⟩
theorem bC {i n:Nat}:List.range' i (n+1)=i::List.range' (i+1) n:=by rw[List.range'_succ]
theorem ba.op {o:Oper} {x:EV} {aI:St} (hg:o.guard=none) (hd:aK N o.dst=true) (h:ib P S.base env st o x aI) (hk:ba P f N S Q ops rest k (env.put o.dst x) aI) :
  ba P f N S Q ops (o::rest) k env st:=by
 intro i hi g w tmps hinv hh he hn
 obtain ⟨v,g',w',hr,hx,aM,hs⟩:=h g w tmps hinv he
 have ho:ops.toArray[i]?=some o:=by simpa using (hi 0).symm
 have hw:Region.wanted o (yielded ops.toArray tmps)=true:=by simp[Region.wanted,hg]
 rw[zbc,bC]
 refine ag.value ho hw hr ?_
 subst hn
 exact hk (i+1) (λj=>by have:=hi (j+1);simpa [zay,zcg 1 j] using this) g' w' _ aM (hh.step hs) (cP (he.mono hs.bn) hd hx) aZ
theorem ba.Ab {o:Oper} {aI:St} (hg:o.guard=none) (hd:aK N o.dst=true) (h:kQ P S.base env st o aI) (hk:ba P f N S Q ops rest k (env.put o.dst (.d .any)) aI) :
  ba P f N S Q ops (o::rest) k env st:=by
 intro i hi g w tmps hinv hh he hn
 obtain ⟨g',w',hr,aM,hs⟩:=h g w tmps hinv he
 have ho:ops.toArray[i]?=some o:=by simpa using (hi 0).symm
 have hw:Region.wanted o (yielded ops.toArray tmps)=true:=by simp[Region.wanted,hg]
 rw[zbc,bC]
 refine ag.skip ho hw hr ?_
 subst hn
 exact hk (i+1) (λj=>by have:=hi (j+1);simpa [zay,zcg 1 j] using this) g' w' _ aM (hh.step hs) (cP (he.mono hs.bn) hd (.d _ _ (.any _))) aZ
end regions
section q
variable {P:uF} {env:Env} {st:St} {d:Option Tmp} {ty:uE} {pos:String} {after:uD Edge} {gd:Option (Nat×Bool)}
theorem xJ {o:Oper} {r:uB} (h:∀ g w tmps w',aH g w st env tmps->(execOp (Act.eval ⟨tmps,[]⟩) o).run P w'=.ok (.value r) w'):kR P env st o (.d (.ex r)) :=
 λg base w tmps hi he=>⟨r,.d _ _ (.ex r),λw' _=>h g w tmps w' he⟩
variable {t t2:uE} {x y:uG}
theorem kS (ht:P.underlying t=some .bool) (a b:Bool) (n:Nat) (w:uC):(Op.equalIn (n+1) t (.bool a) (.bool b)).run P w=.ok (a==b) w:=by
 simp[Op.equalIn,run_underlying ht]
theorem qC {e:uE} (ht:P.underlying t=some (.slice e)) {ρ:uG->uB} {A:J Addr} {n c:Nat} (hv:ρ x=.slice A n c) (w:uC) :
  (execOp ρ ⟨d,.call ⟨.builtin .len,#[x],#[t]⟩,ty,pos,after,gd⟩).run P w=.ok (.value (.int .i64 n)) w:=by
 simp[execOp,hv,resolve,invoke,builtin,Builtin.len_,run_underlying ht,goInt]
theorem qD {ae:Nat->Nat} {w:uC} {sz:Nat} {rows:O (O D)} {v:uB} (h:aJ ae w (.sl sz rows) v):∃ A c,v=.slice A rows.length c:=by
 cases h with
 | nil _ A=>exact ⟨A,0,rfl⟩
 | sl _ _ b off cap=>exact ⟨_,_,rfl⟩
theorem mU (hd:∃ mV,P.underlying t=some mV/\(∀ fs,mV≠.struct fs)/\(∀ n e,mV≠.array n e)) (w:uC):(isAgg t).run P w=.ok false w:=by
 obtain ⟨mV,h,h1,h2⟩:=hd
 simp only[isAgg,Sem.run_bind,run_underlying h,Result.andThen_ok]
 cases mV<;>first|rfl|exact absurd rfl (h1 _)|exact absurd rfl (h2 _ _)
def mW:TypeDesc->Bool
 | .struct _|.array _ _=>false
 | _=>true
theorem n9 (h:(P.underlying t).map mW=some true) (w:uC):(isAgg t).run P w=.ok false w:=by
 cases hd:P.underlying t with
 | none=>rw[hd] at h;simp at h
 | some mV =>
  refine mU ⟨mV,hd,?_,?_⟩ w
  ·intro fs e;subst e;rw[hd] at h;simp[mW] at h
  ·intro n e' e;subst e;rw[hd] at h;simp[mW] at h
end q
theorem Inv.grow {g g':aw} {base:Nat} {w w':uC} {st:St} (h:Inv g base w st) (hb:Below w.heap.size w w') (hl:∀ b,b<w.heap.size->g'.ae b=g.ae b) (ho:g'.ob=g.ob) (ht:g'.tk=g.tk) :
  Inv g' base w' st/\Step base g w st g' w' st:=by
 have hs:Step base g w st g' w' st:=by
  refine ⟨⟨⟨hb.size,λb bY=>by rw[hl b bY];exact zab _,λb off bY _=>hb.cell (p:=⟨b,off,none⟩) bY⟩,λ_ _=>by rw[ho],zab _,λt e sz n h=>⟨n,h,zab _,λ_=>by rw[ht]⟩,zab _,jU λt x' ab _ h _=>⟨h,by rw[ht]⟩⟩,hb.mono h.base,λb bY=>hl b (zag bY h.base),
   λb bY _=>⟨hb.block b bY,hl b bY⟩,λb _ hw=>by unfold eF at hw ⊢;rw[ho,ht] at hw;exact hw⟩
 have aG:∀ (b:Nat) (x:Obj),w.heap[b]?=some x->b<w.heap.size:=λb x hx=>(zaz.1 hx).1
 have xK:∀ o x,st.ak[o]?=some (.raw x)->base<=g'.ob o/\g'.ae (g'.ob o)=0/\w'.heap[g'.ob o]?=some x:=by
  intro o x hx
  obtain ⟨h1,h2,h3⟩:=h.raw o x hx
  have iV:=aG _ _ h3
  rw[ho]
  exact ⟨h1,by rw[hl _ iV];exact h2,by rw[hb.block _ iV];exact h3⟩
 refine ⟨⟨zau h.base hb.size,?_,?_,xK,?_,?_,?_,?_,h.eE.below hs.below,?_⟩,hs⟩
 ·intro o ty cs hx
  obtain ⟨h1,h2,vs,h3,h4,h5⟩:=h.row o ty cs hx
  have iV:=aG _ _ h3
  rw[ho]
  refine ⟨h1,by rw[hl _ iV];exact h2,vs,by rw[hb.block _ iV];exact h3,h4,λi c u hc hu=>⟨(h5 i c u hc hu).1.mono hs.bn,(h5 i c u hc hu).2⟩⟩
 ·intro o es hx
  obtain ⟨h1,ms,clock,h3,h4,h5,h6,h7⟩:=h.map o es hx
  have iV:=aG _ _ h3
  rw[ho]
  exact ⟨h1,ms,clock,by rw[hb.block _ iV];exact h3,h4,λi k x m a b=>⟨(h5 i k x m a b).1,(h5 i k x m a b).2.mono hs.bn⟩,h6,h7⟩
 ·rw[ho];exact h.ne
 ·intro t e sz n hx
  obtain ⟨xs,h1,h2⟩:=h.tail t e sz n hx
  rw[ht]
  refine ⟨xs,?_,λb bY=>?_⟩
  ·obtain ⟨k1,k2⟩:=h1
   refine ⟨k1,?_⟩
   rcases k2 with k2|⟨gb,cap,cur,e1,e2,e3,e4⟩
   ·exact .inl k2
   ·exact .inr ⟨gb,cap,cur,e1,e2,by rw[hb.block _ (aG _ _ e3)];exact e3,e4⟩
  ·rw[hl b (h1.lt b bY).2];exact h2 b bY
 ·rw[ht];exact h.ed
 ·rw[ht,ho];exact h.cN
 ·intro t e sz n rows hx
  obtain ⟨xs,h1,h2,h3⟩:=h.own t e sz n rows hx
  rw[ht]
  exact ⟨xs,bB h1 λb bY=>hb.block b (h1.lt b bY).2,λb bY=>by rw[hl b (h1.lt b bY).2];exact h2 b bY,h3.mono hs.bn.bX⟩
def lZ (g:aw) (w:uC) (st:St) (args:List EV) (vs:uD uB):Prop :=
 vs.size=args.length/\∀ (i:Nat) x v,args[i]?=some x->vs[i]?=some v->ai g w st x v
def cQ (P:uF) (f:FuncId) (args:List EV) (st:St) (Q:EV->St->Prop):Prop :=
 ∀ g w base vs,Inv g base w st->lZ g w st args vs->Calls P f vs w (dS ⟨g,w,st,base⟩ Q)
def fH (ae:Nat->Nat) (w:uC) (args:List D) (vs:uD uB):Prop :=
 vs.size=args.length/\∀ (i:Nat) x v,args[i]?=some x->vs[i]?=some v->aJ ae w x v
def bj (P:uF) (f:FuncId) (args:List D) (q:D->Prop):Prop :=
 ∀ ae w vs,aO w.heap.size w->fH ae w args vs->Calls P f vs w λe w'=>∃ v r aC,e=.returned v/\q r/\aJ aC w' r v/\mR ae w aC w'/\Below w.heap.size w w'/\∀ b,b<w.heap.size->aC b=ae b
def ee:Nat->List EV->Env
 | _,[]=>[]
 | i,x::l=>(i,x)::ee (i+1) l
theorem cy:∀ (l:O EV) (i j:Nat) (y:EV),lookup j (ee i l)=some y->∃ k,j=i+k/\l[k]?=some y
 | [],i,j,y,h=>by simp[ee,lookup] at h
 | x::l,i,j,y,h=>by
  unfold ee lookup at h
  cases hb:Nat.beq j i with
  | true =>
   rw[hb] at h
   simp only[Option.some.injEq] at h
   exact ⟨0,zae hb,by simp[h]⟩
  | false =>
   rw[hb] at h
   obtain ⟨k,h1,h2⟩:=cy l (i+1) j y h
   exact ⟨k+1,by omega,by simpa using h2⟩
section enter
variable {P:uF} {f:FuncId} {fn:Func} {c:Code} {N:Nat}
theorem cQ.enter {args:O EV} {st:St} {Q:EV->St->Prop} (hf:P.funcs[f]?=some fn) (hb:fn.body=some c) (hN:fn.ntmps=N) (hl:Nat.ble args.length N=true)
  (h:∀ S:Start,S.st=st->aQ P (.of f) N S Q [.code c] (ee 0 args) st):cQ P f args st Q:=by
 intro g w base vs hi ha
 have mX:=zac hl
 have dh:=ha.1
 refine ag.calls hf hb ?_
 refine h ⟨g,w,st,base⟩ rfl g w _ hi (eG.refl ⟨g,w,st,base⟩) ?_ (by simp[hN];omega)
 intro j y hy
 obtain ⟨k,rfl,hk⟩:=cy args 0 j y hy
 have kT:=(zaa.1 hk).1
 refine ⟨vs[k]'(by omega),?_,ha.2 k y _ hk (by simp[dh,kT])⟩
 rw[zbd,zcd (by omega)]
 simp[dh,kT]
def QD (q:D->Prop) (r:EV) (_:St):Prop:=∃ x,bV r (.d x)/\q x
theorem bj.of {args:O D} {q:D->Prop} (h:cQ P f (args.map EV.d) ⟨[],[]⟩ (QD q)):bj P f args q:=by
 intro ae w vs oa ha
 have hinv:Inv ⟨ae,λ_=>0,λ_=>.nilFunc⟩ w.heap.size w ⟨[],[]⟩ :=
  ⟨zab _,λo ty cs h=>by simp at h,λo es h=>by simp at h,λo x h=>by simp at h,λo o' _ ⟨x,h,_⟩=>by simp at h,λt e sz n h=>by simp at h,λt t' x x' b _ h=>by simp at h,λt x o h=>by simp at h,oa,λt e sz n rows h=>by simp at h⟩
 refine (h _ w w.heap.size vs hinv ⟨by simpa using ha.1,λi x v hx hv=>?_⟩).mono ?_
 ·rw[zap] at hx
  cases hy:args[i]? with
  | none=>rw[hy] at hx;simp at hx
  | some y =>
   rw[hy] at hx
   simp only[Option.map_some,Option.some.injEq] at hx
   subst hx
   exact .d _ _ (ha.2 i y v hy hv)
 ·rintro e w' ⟨v,r,aI,g',rfl,⟨x,hle,hq⟩,hr,fZ,hh⟩
  cases hle _ _ _ _ hr with
  | d _ _ hd=>exact ⟨v,x,g'.ae,rfl,hq,hd,hh.bn.bX,hh.below,hh.ae⟩
theorem bj.enter {args:O D} {q:D->Prop} (hf:P.funcs[f]?=some fn) (hb:fn.body=some c) (hN:fn.ntmps=N) (hl:Nat.ble args.length N=true)
  (h:∀ S:Start,aQ P (.of f) N S (QD q) [.code c] (ee 0 (args.map EV.d)) ⟨[],[]⟩):bj P f args q :=
 .of (.enter hf hb hN (by simpa using hl) λS _=>h S)
end enter
theorem QD.d {q:D->Prop} {x:D} {st:St} (h:q x):QD q (.d x) st:=⟨x,.qB _,h⟩
theorem QD.cF {q:D->Prop} {sz:Nat} {rows:O (O D)} {t:Nat} {st:St} (h:q (.sl sz rows)):QD q (.cF sz rows t) st:=⟨_,.cF _ _ _,h⟩
section call
variable {P:uF} {f:Ctx} {N:Nat} {S:Start} {Q:EV->St->Prop} {k:List Item} {env:Env} {st:St} {ops rest:List Oper}
 {d:Option Tmp} {ty:uE} {pos:String} {after:uD Edge}
def Enters (P:uF) (f:FuncId):Prop:=∃ fn,P.funcs[f]?=some fn/\(fn.name == "runtime.NumGoroutine")=false/\fn.body.isNone=false
theorem cR {f':FuncId} (h:Enters P f') (args:uD uB) (w:uC):(callFunc f' args).run P w=.ok (.enter f' args) w:=by
 obtain ⟨fn,h1,h2,h3⟩:=h
 have qE:fn.name ≠ "runtime.NumGoroutine" := by simpa using h2
 have Ad:fn.body≠none:=by intro e;rw[e] at h3;cases h3
 simp[callFunc,h1,qE,Ad]
end call
def St.add (st:St) (x:fj):St:=⟨st.ak++[x],st.aa⟩
def St.tok (st:St) (x:bU):St:=⟨st.ak,st.aa++[x]⟩
def St.ah (st:St) (t:Nat) (x:bU):St:=⟨st.ak,st.aa.set t x⟩
theorem ic {ae aC:Nat->Nat} {w w':uC} (hs:w.heap.size<=w'.heap.size) (h:∀ b,b<w.heap.size->ae b<=aC b/\(ae b=0∨w'.heap[b]?=w.heap[b]?)):mR ae w aC w' :=
 ⟨hs,λb hb=>(h b hb).1,λb off hb ho=>by
  rcases (h b hb).2 with h2|h2
  ·omega
  ·exact World.cell?_of_block (w:=w) (a:=⟨b,off,none⟩) h2⟩
section inv
variable {g:aw} {base:Nat} {w:uC} {st:St}
theorem Inv.l0 (h:Inv g base w st) {o:Nat} (hl:st.live o):g.ob o<w.heap.size/\base<=g.ob o:=by
 obtain ⟨x,hx,aN⟩:=hl
 cases x with
 | row ty cs =>
  obtain ⟨h1,h2,vs,h3,_⟩:=h.row o ty cs hx
  exact ⟨(zaz.1 h3).1,h1⟩
 | map es =>
  obtain ⟨h1,ms,c,h3,_⟩:=h.map o es hx
  exact ⟨(zaz.1 h3).1,h1⟩
 | raw y =>
  obtain ⟨h1,_,h3⟩:=h.raw o y hx
  exact ⟨(zaz.1 h3).1,h1⟩
 | gone=>exact absurd rfl aN
end inv
def di (P:uF) (s:uE) (f:Nat):Option Nat :=
 match P.underlying s with
 | some (.struct fs)=>match fs[f]? with
  | some fl=>match P.info? fl.type with
   | some i=>if i.size=0 then none else some fl.offset
   | none=>none
  | none=>none
 | _=>none
theorem gv {P:uF} {s:uE} {f off:Nat} (h:di P s f=some off) (a:Addr) (w:uC):(Instr.fieldAt s (.pointer (some a)) f).run P w=.ok (.pointer (some (a.add off))) w:=by
 unfold di at h
 split at h
 ·rename_i fs hu
  split at h
  ·rename_i fl hf
   split at h
   ·rename_i i hi
    split at h
    ·cases h
    ·rename_i dh
     simp only[Option.some.injEq] at h
     subst h
     simp[Instr.fieldAt,run_underlying hu,hf,Instr.sureAddr,fieldPlace,sizeOf,typeInfo,hi,dh]
   ·cases h
  ·cases h
 ·cases h
def vA:List EV->Option (List D)
 | []=>some []
 | .d x::l=>match vA l with
  | some r=>some (x::r)
  | none=>none
 | _::_=>none
def iA:EV->Bool->Option Bool
 | .d (.ex (.bool b)),true=>some b
 | .d (.ex (.bool b)),false=>some (!b)
 | .gd c (.d (.ex (.bool b))),true=>some (c && b)
 | .gd c (.d (.ex (.bool b))),false=>some (c && !b)
 | _,_=>none
def s9:uB->Option Bool
 | .bool c=>some c
 | _=>none
theorem dG {g:aw} {w:uC} {st:St} {e:EV} {want b:Bool} {v:uB} (h:iA e want=some b) (hv:ai g w st e v):(s9 v==some want)=b:=by
 unfold iA at h
 split at h
 ·cases h
  rw[hv.iU];cases b<;>rfl
 ·rename_i c
  cases h
  rw[hv.iU];cases c<;>rfl
 ·rename_i c c'
  cases h
  cases hv with
  | gd _ _ _ h0 h1 =>
   cases c with
   | false=>rw[h0 rfl];rfl
   | true=>rw[(h1 rfl).iU];cases c'<;>rfl
 ·rename_i c c'
  cases h
  cases hv with
  | gd _ _ _ h0 h1 =>
   cases c with
   | false=>rw[h0 rfl];rfl
   | true=>rw[(h1 rfl).iU];cases c'<;>rfl
 ·cases h
def gw (b:Bool) (env:Env):Env->Prop
 | []=>True
 | (i,y)::t=>(lookup i env=some y∨lookup i env=some (.gd b y)∨∃ a z,y=.gd a z/\lookup i env=some (.gd (b && a) z))/\gw b env t
theorem gw.get {b:Bool} {env:Env}:∀ {ay:Env},gw b env ay->∀ i y,lookup i ay=some y->lookup i env=some y∨lookup i env=some (.gd b y)∨∃ a z,y=.gd a z/\lookup i env=some (.gd (b && a) z)
 | [],_,i,y,h=>by simp[lookup] at h
 | (j,z)::t,⟨hh,ht⟩,i,y,h=>by
  unfold lookup at h
  cases hb:Nat.beq i j with
  | true =>
   rw[hb] at h
   simp only[Option.some.injEq] at h
   have:=zae hb
   subst this
   subst h
   exact hh
  | false =>
   rw[hb] at h
   exact ht.get i y h
theorem aH.gd {g:aw} {w:uC} {st:St} {env ay:Env} {tmps:uD uB} {b:Bool} (h:aH g w st env tmps) (hg:gw b env ay) (hb:b=true):aH g w st ay tmps:=by
 intro i y hy
 rcases hg.get i y hy with h1|h1|⟨a,z,rfl,h1⟩
 ·exact h i y h1
 ·obtain ⟨v,h2,h3⟩:=h i _ h1
  cases h3 with
  | gd _ _ _ _ h4=>exact ⟨v,h2,h4 hb⟩
 ·obtain ⟨v,h2,h3⟩:=h i _ h1
  rw[hb,Bool.true_and] at h3
  exact ⟨v,h2,h3⟩
section guard
variable {P:uF} {f:Ctx} {N:Nat} {S:Start} {Q:EV->St->Prop} {k:List Item} {env:Env} {st:St} {ops rest:List Oper}
theorem ba.guard {d t:Tmp} {op:Op} {ty:uE} {pos:String} {after:uD Edge} {j:Nat} {want b:Bool} {c x:EV} {ay:Env} (hj:(ops[j]?).bind (·.dst)=some t) (hl:lookup t env=some c) (hc:iA c want=some b)
  (hE:gw b env ay) (hd:aK N (some d)=true) (h:b=true->kR P ay st ⟨some d,op,ty,pos,after,some (j,want)⟩ x) (hk:ba P f N S Q ops rest k ((d,.gd b x)::env) st) :
  ba P f N S Q ops (⟨some d,op,ty,pos,after,some (j,want)⟩::rest) k env st:=by
 intro i hi g w tmps hinv hh he hn
 have ho:ops.toArray[i]?=some ⟨some d,op,ty,pos,after,some (j,want)⟩:=by simpa using (hi 0).symm
 obtain ⟨v,hv,hr⟩:=he t c hl
 have hw:Region.wanted ⟨some d,op,ty,pos,after,some (j,want)⟩ (yielded ops.toArray tmps)=b:=by
  rw[←dG hc hr]
  have de:((ops.toArray)[j]?).bind (·.dst)=some t:=by simpa using hj
  simp only[Region.wanted,yielded,de,zat,hv]
  cases v<;>rfl
 rw[zbc,bC]
 subst hn
 have fZ:∀ j:Nat,rest[j]?=ops[i+1+j]?:=λj=>by have:=hi (j+1);simpa [zay,zcg 1 j] using this
 cases b with
 | false=>exact ag.cG ho hw (hk (i+1) fZ g w _ hinv hh (cP (d:=some d) he hd (.gd _ _ _ (λ_=>rfl) (λh=>by cases h))) aZ)
 | true =>
  obtain ⟨u,h1,h2⟩:=h rfl g S.base w tmps hinv (he.gd hE rfl)
  exact ag.value ho hw (h2 w (.refl _ _)) (hk (i+1) fZ g w _ hinv hh (cP (d:=some d) he hd (.gd _ _ _ (λh=>by cases h) (λ_=>h1))) aZ)
theorem ba.q {d:J Tmp} {op:Op} {ty:uE} {pos:String} {after:uD Edge} {x:EV} (h:kR P env st ⟨d,op,ty,pos,after,none⟩ x) (hd:aK N d=true) (hk:ba P f N S Q ops rest k (env.put d x) st) :
  ba P f N S Q ops (⟨d,op,ty,pos,after,none⟩::rest) k env st:=.op rfl hd h.v hk
theorem ba.v {d:J Tmp} {op:Op} {ty:uE} {pos:String} {after:uD Edge} {x:EV} {aI:St} (h:ib P S.base env st ⟨d,op,ty,pos,after,none⟩ x aI) (hd:aK N d=true) (hk:ba P f N S Q ops rest k (env.put d x) aI) :
  ba P f N S Q ops (⟨d,op,ty,pos,after,none⟩::rest) k env st:=.op rfl hd h hk
theorem ba.u {d:J Tmp} {op:Op} {ty:uE} {pos:String} {after:uD Edge} {aI:St} (h:kQ P S.base env st ⟨d,op,ty,pos,after,none⟩ aI) (hd:aK N d=true) (hk:ba P f N S Q ops rest k (env.put d (.d .any)) aI) :
  ba P f N S Q ops (⟨d,op,ty,pos,after,none⟩::rest) k env st:=.Ab rfl hd h hk
end guard
section q
variable {P:uF} {env:Env} {st:St} {d:Option Tmp} {ty:uE} {pos:String} {after:uD Edge} {gd:Option (Nat×Bool)} {t t2:uE} {x y:uG}
theorem ig {w:uC} {b off n:Nat} {vs:O uB} (hl:vs.length=n) (h:∀ j u,vs[j]?=some u->w.cell? ⟨b,off+j,none⟩=some u):(loadCells ⟨b,off,none⟩ n).run P w=.ok vs.toArray w:=by
 subst hl
 exact run_loadCells_list w _ vs λj u hu=>by rw[Addr.add_lit];exact h j u hu
end q
def kU:EV->Option (List EV)
 | .d (.ex v)=>if v.oneCell' then some [.d (.ex v)] else none
 | .d (.agg cs)=>some (cs.map EV.d)
 | .d (.sl sz rows)=>some [.d (.sl sz rows)]
 | .d (.ro cs)=>some [.d (.ro cs)]
 | .d (.e0 sz)=>some [.d (.e0 sz)]
 | .ref o off=>some [.ref o off]
 | .kN o off n c=>some [.kN o off n c]
 | .cF sz rows t=>some [.cF sz rows t]
 | .mp o=>some [.mp o]
 | .kO f cs=>some [.kO f cs]
 | .vc t k=>some [.vc t k]
 | .vp t k i off=>some [.vp t k i off]
 | .vw t k lo n=>some [.vw t k lo n]
 | .agg cs=>some cs
 | _=>none
section v
variable {P:uF} {base:Nat} {env:Env} {st:St} {d:Option Tmp} {ty:uE} {pos:String} {after:uD Edge} {gd:Option (Nat×Bool)} {t t2:uE} {x y:uG}
def putCells (cs:List EV) (off:Nat) (new:List EV):List EV:=cs.take off++new++cs.drop (off+new.length)
end v
def Good (g:aw) (w:uC) (st:St) (x:EV) (aC:Nat->Nat) (w':uC) (v:uB):Prop :=
 ai { g with ae:=aC } w' st x v/\Below w.heap.size w w'/\∀ b,b<w.heap.size->aC b=g.ae b
def jP (P:uF) (env:Env) (st:St) (o:Oper) (x:EV):Prop :=
 ∀ g base w tmps,Inv g base w st->aH g w st env tmps ->
  (∃ v aC w',(execOp (Act.eval ⟨tmps,[]⟩) o).run P w=.ok (.value v) w'/\Good g w st x aC w' v) ∨
  (∃ f' args,(execOp (Act.eval ⟨tmps,[]⟩) o).run P w=.ok (.enter f' args) w/\Calls P f' args w λe w'=>∃ v aC,e=.returned v/\Good g w st x aC w' v)
section g
variable {P:uF} {f:Ctx} {N:Nat} {S:Start} {Q:EV->St->Prop} {k:List Item} {env:Env} {st:St} {ops rest:List Oper}
 {d:Option Tmp} {op:Op} {ty:uE} {pos:String} {after:uD Edge} {gd:Option (Nat×Bool)} {t t2 e:uE} {x y:uG}
theorem kR.g {o:Oper} {r:EV} (h:kR P env st o r):jP P env st o r:=λg base w tmps hi he =>
 let ⟨v,h1,h2⟩:=h g base w tmps hi he
 .inl ⟨v,g.ae,w,h2 w (.refl _ _),h1,.refl _ _,λ_ _=>rfl⟩
theorem ba.g {x:EV} (h:jP P env st ⟨d,op,ty,pos,after,none⟩ x) (hd:aK N d=true) (hk:ba P f N S Q ops rest k (env.put d x) st) :
  ba P f N S Q ops (⟨d,op,ty,pos,after,none⟩::rest) k env st:=by
 intro i hi g w tmps hinv hh he hn
 have ho:ops.toArray[i]?=some ⟨d,op,ty,pos,after,none⟩:=by simpa using (hi 0).symm
 have fZ:∀ j:Nat,rest[j]?=ops[i+1+j]?:=λj=>by have:=hi (j+1);simpa [zay,zcg 1 j] using this
 rw[zbc,bC]
 subst hn
 rcases h g S.base w tmps hinv he with ⟨v,aC,w',hr,hx,hb,hl⟩|⟨f',args,hr,hc⟩
 ·obtain ⟨aM,hs⟩:=hinv.grow (g':={ g with ae:=aC }) hb hl rfl rfl
  exact ag.value ho (by simp[Region.wanted]) hr (hk (i+1) fZ _ w' _ aM (hh.step hs) (cP (he.mono hs.bn) hd hx) aZ)
 ·refine ag.call ho (by simp[Region.wanted]) hr (hc.mono ?_)
  rintro e w' ⟨v,aC,rfl,hx,hb,hl⟩
  obtain ⟨aM,hs⟩:=hinv.grow (g':={ g with ae:=aC }) hb hl rfl rfl
  exact ⟨v,rfl,hk (i+1) fZ _ w' _ aM (hh.step hs) (cP (he.mono hs.bn) hd hx) aZ⟩
theorem ba.ta {d t:Tmp} {j:Nat} {want b:Bool} {c x:EV} {ay:Env} (hj:(ops[j]?).bind (·.dst)=some t) (hl:lookup t env=some c) (hc:iA c want=some b)
  (hE:gw b env ay) (hd:aK N (some d)=true) (h:b=true->jP P ay st ⟨some d,op,ty,pos,after,some (j,want)⟩ x) (hk:ba P f N S Q ops rest k ((d,.gd b x)::env) st) :
  ba P f N S Q ops (⟨some d,op,ty,pos,after,some (j,want)⟩::rest) k env st:=by
 intro i hi g w tmps hinv hh he hn
 have ho:ops.toArray[i]?=some ⟨some d,op,ty,pos,after,some (j,want)⟩:=by simpa using (hi 0).symm
 obtain ⟨v,hv,hr⟩:=he t c hl
 have hw:Region.wanted ⟨some d,op,ty,pos,after,some (j,want)⟩ (yielded ops.toArray tmps)=b:=by
  rw[←dG hc hr]
  have de:((ops.toArray)[j]?).bind (·.dst)=some t:=by simpa using hj
  simp only[Region.wanted,yielded,de,zat,hv]
  cases v<;>rfl
 rw[zbc,bC]
 subst hn
 have fZ:∀ j:Nat,rest[j]?=ops[i+1+j]?:=λj=>by have:=hi (j+1);simpa [zay,zcg 1 j] using this
 cases b with
 | false=>exact ag.cG ho hw (hk (i+1) fZ g w _ hinv hh (cP (d:=some d) he hd (.gd _ _ _ (λ_=>rfl) (λh=>by cases h))) aZ)
 | true =>
  rcases h rfl g S.base w tmps hinv (he.gd hE rfl) with ⟨v,aC,w',hr,hx,hb,hl⟩|⟨f',args,hr,hc⟩
  ·obtain ⟨aM,hs⟩:=hinv.grow (g':={ g with ae:=aC }) hb hl rfl rfl
   exact ag.value ho hw hr (hk (i+1) fZ _ w' _ aM (hh.step hs) (cP (d:=some d) (he.mono hs.bn) hd (.gd _ _ _ (λh=>by cases h) (λ_=>hx))) aZ)
  ·refine ag.call ho hw hr (hc.mono ?_)
   rintro e w' ⟨v,aC,rfl,hx,hb,hl⟩
   obtain ⟨aM,hs⟩:=hinv.grow (g':={ g with ae:=aC }) hb hl rfl rfl
   exact ⟨v,rfl,hk (i+1) fZ _ w' _ aM (hh.step hs) (cP (d:=some d) (he.mono hs.bn) hd (.gd _ _ _ (λh=>by cases h) (λ_=>hx))) aZ⟩
theorem gx {sz:Nat}:∀ {rows:O (O D)} (h:∀ row∈rows,row.length=sz) {i j:Nat} {row:O D} {c:D},rows[i]?=some row->row[j]?=some c->rows.flatten[i*sz+j]?=some c
 | [],_,i,j,row,c,hr,_=>by simp at hr
 | r::rows,h,0,j,row,c,hr,hc=>by
  simp at hr
  subst hr
  rw[List.flatten_cons,Nat.zero_mul,zbd,zak (zaa.1 hc).1]
  exact hc
 | r::rows,h,i+1,j,row,c,hr,hc=>by
  have hl:=h r (by simp)
  rw[List.flatten_cons,zcb,zav (by omega)]
  have:=gx (rows:=rows) (λr hr=>h r (by simp[hr])) (by simpa using hr) hc
  rw[←this]
  congr 1
  omega
theorem dj {sz:Nat}:∀ {rows:O (O D)},(∀ row∈rows,row.length=sz)->rows.flatten.length=rows.length*sz
 | [],_=>by simp
 | r::rows,h=>by
  have h1:=h r (by simp)
  have h2:=dj (rows:=rows) (λr hr=>h r (by simp[hr]))
  rw[List.flatten_cons,zbb,h1,h2,zbc,zcb];omega
theorem sd {ae:Nat->Nat} {w:uC} {sz:Nat} {rows:O (O D)} {v:uB} (h:aJ ae w (.sl sz rows) v) :
  ∃ (A:J Addr) (c:Nat) (vs:O uB),v=.slice A rows.length c/\vs.length=rows.length*sz/\(rows.length=0∨∃ b off,A=some ⟨b,off,none⟩)/\(A=none->rows.length=0/\c=0) /\
   (∀ b off,A=some ⟨b,off,none⟩->∀ (j:Nat) u,vs[j]?=some u->w.cell? ⟨b,off+j,none⟩=some u)/\(∀ row∈rows,row.length=sz) /\
   ∀ (j:Nat) u c,vs[j]?=some u->rows.flatten[j]?=some c->aJ ae w c u/\u.oneCell'=true:=by
 cases h with
 | nil _ A=>exact ⟨A,0,[],rfl,by simp,.inl rfl,λ_=>⟨rfl,rfl⟩,by simp,by simp,by simp⟩
 | sl _ _ b off cap hc hr hx h =>
  have xb:=dj hr
  refine ⟨some ⟨b,off,none⟩,cap,(List.range (rows.length*sz)).map λj=>(w.cell? ⟨b,off+j,none⟩).getD undef,rfl,by simp,.inr ⟨b,off,rfl⟩,(λh=>by cases h),?_,hr,?_⟩
  ·intro b' Ae he j u hu
   cases he
   rw[zap] at hu
   by_cases hj:j<rows.length*sz
   ·obtain ⟨_,u',tc,h1⟩:=hx j hj
    simp[List.getElem?_range hj,tc] at hu
    subst hu
    exact tc
   ·simp[zbn (show (List.range (rows.length*sz)).length<=j by simp;omega)] at hu
  ·intro j u c hu ij
   have hj:j<rows.length*sz:=by have:=(zaa.1 ij).1;omega
   rw[zap] at hu
   obtain ⟨_,u',tc,h1⟩:=hx j hj
   simp[List.getElem?_range hj,tc] at hu
   subst hu
   refine ⟨?_,h1⟩
   have dh:0<sz:=by
    rcases Nat.eq_zero_or_pos sz with h0|h0
    ·subst h0;omega
    ·exact h0
   have zl:j=(j / sz)*sz+j % sz:=by rw[Nat.mul_comm];exact (Nat.div_add_mod j sz).symm
   have hi:j / sz<rows.length:=Nat.div_lt_of_lt_mul (by rw[Nat.mul_comm];exact hj)
   have hm:j % sz<rows[j / sz].length:=by rw[hr _ (List.getElem_mem hi)];exact Nat.mod_lt _ dh
   have hg:=gx hr (zad hi) (zad hm)
   rw[←zl,ij] at hg
   cases hg
   refine h (j / sz) (j % sz) _ _ u' (zad hi) (zad hm) ?_
   rw[←zl]
   exact tc
end g
def jV:EV->Option (Nat×List (List D))
 | .d (.sl sz rows)=>some (sz,rows)
 | .d (.e0 sz)=>some (sz,[])
 | .cF sz rows _=>some (sz,rows)
 | _=>none
theorem jW {g:aw} {w:uC} {st:St} {e:EV} {sz:Nat} {rows:O (O D)} {v:uB} (h:jV e=some (sz,rows)) (hv:ai g w st e v):aJ g.ae w (.sl sz rows) v:=by
 unfold jV at h
 split at h
 ·cases h;cases hv with|d _ _ h=>exact h
 ·cases h;cases hv with|d _ _ h=>exact D.n8 h
 ·cases h;cases hv with|cF _ _ _ _ _ _ h=>exact h
 ·cases h
section q
variable {P:uF} {base:Nat} {env:Env} {st:St} {d:Option Tmp} {ty:uE} {pos:String} {after:uD Edge} {gd:Option (Nat×Bool)} {t t2 e:uE} {x y z:uG}
theorem aF {inf:TypeInfo} {e:uE} (hi:P.info? e=some inf) (w:uC):(sizeOf e).run P w=.ok inf.size w:=by simp[sizeOf,typeInfo,hi]
structure Src (P:uF) (w:uC) (sz:Nat) (u:uB) (m:Nat) (news:List uB):Prop where
 len:Builtin.lenOf u=pure m
 cells:∀ w':uC,w'.heap=w.heap->(Builtin.firstCells sz m u).run P w'=.ok news.toArray w'
 size:news.length=m*sz
 one:∀ v∈news,v.oneCell'=true
theorem fJ (w:uC) {base ty sz:Nat} {inf:TypeInfo} {zv:uB} {d2:TypeDesc} (ht:P.underlying t=some (.slice e)) (iB:P.underlying t2=some d2) (mY:d2=.string∨∃ e2,d2=.slice e2) (hi:P.info? e=some inf) (hz:inf.zero=some zv)
  (a6:inf.size=sz) (eh:zv.cells.size=sz) {v:uB} {n:Nat} {xs:O uB} (cz:w.ownsRow base e sz v n xs) {u:uB} {m:Nat} {news:O uB} (hs:Src P w sz u m news)
  (nT:n+m<=maxLen) (oc:(n+m)*inf.bytes<=140737488355328) (vB:base<=w.heap.size) :
  ∃ v' w',(Builtin.append_ #[t,t2] ty #[v,u]).run P w=.ok v' w'/\w'.ownsRow base e sz v' (n+m) (xs++news)/\(m=0->v'=v) /\
   ((v'.ownBlock=v.ownBlock/\w'.heap.size=w.heap.size/\w.grownBy w' v.ownBlock)∨(v'.ownBlock=some w.heap.size/\Below w.heap.size w w')):=by
 rcases mY with rfl|⟨e2,rfl⟩
 all_goals
  subst a6
  have xL:n+m<=9223372036854775807:=by simp only[maxLen] at nT;omega
  have hlen:(xs++news).length=(n+m)*inf.size:=by rw[zbb,cz.1,hs.size,zcb]
  have hl:=hs.len
  have grown:∀ (old:Nat),old<n+m ->
    (w.drew.alloc (.cells (xs.toArray++news.toArray++Builtin.zeroCells zv.cells (grownCap w (n+m) old e-(n+m))) e)).ownsRow base e inf.size
     (.slice (some ⟨w.heap.size,0,none⟩) (n+m) (grownCap w (n+m) old e)) (n+m) (xs++news) /\
    Below w.heap.size w (w.drew.alloc (.cells (xs.toArray++news.toArray++Builtin.zeroCells zv.cells (grownCap w (n+m) old e-(n+m))) e)):=by
   intro old ho
   have qp:=grownCap_ge w (n+m) old e
   have xc:grownCap w (n+m) old e<=maxLen:=grownCap_le_maxLen w (n+m) old e nT
   refine ⟨⟨hlen,.inr ⟨w.heap.size,_,_,rfl,vB,heap_alloc_new w.drew _,qp,xc,?_,?_⟩⟩,((Below.refl _ w).drew).alloc (zab _) _⟩
   ·simp only[Array.size_append,zcv,size_zeroCells,eh,cz.1,hs.size,←zcb]
    congr 1
    omega
   ·simp only[Array.toList_append,zcm]
    rw[←zcm,←hlen]
    exact List.take_left
  rcases cz.2 with ⟨rfl,rfl⟩|⟨g,cap,cur,rfl,Af,hg,va,xc,qq,l4⟩
  ·have hx:xs=[]:=zan (by simpa using cz.1)
   subst hx
   by_cases hm:m=0
   ·subst hm
    have hn:news=[]:=zan (by simpa using hs.size)
    subst hn
    refine ⟨.slice none 0 0,w,?_,World.ownsRow_nil w base e inf.size,λ_=>rfl,.inl ⟨rfl,rfl,⟨rfl,rfl,rfl,zab _,λ_ _ _=>rfl⟩⟩⟩
    have hf:=hs.cells w rfl
    simp[Builtin.append_,run_underlying ht,run_underlying iB,sizeOf,typeInfo,hi,hl,hf]
   ·have vC:=grown 0 (by omega)
    refine ⟨_,_,?_,vC.1,λh0=>by omega,.inr ⟨rfl,vC.2⟩⟩
    have hf:=hs.cells w.drew rfl
    have vD:¬ m=0:=hm
    have iW:¬ (9223372036854775807<(m:Int)):=by omega
    have iX:¬ (281474976710656<Builtin.nextslicecap m 0*inf.bytes):=by
     have bY:=oc
     rw[zbd] at bY
     have:=growslice_fits (need:=m) (old:=0) (by omega) bY
     omega
    simp[Builtin.append_,run_underlying ht,run_underlying iB,sizeOf,typeInfo,zeroValue,hi,hz,hl,vD,iW,iX,Question.forced,run_firstCells_none,hf,newRow,grownCap]
  ·by_cases aW:n+m<=cap
   ·have td:n*inf.size+news.length<=cur.size:=by rw[hs.size,qq,←zcb];exact zbu _ aW
    have bQ:=run_storeCells_at P g (n*inf.size) e news 0 cur w hg (by simpa using td) hs.one
    simp only[zcr] at bQ
    have hf:=hs.cells w rfl
    refine ⟨.slice (some ⟨g,0,none⟩) (n+m) cap,w.setRow g (cur.toList.take (n*inf.size)++news++cur.toList.drop (n*inf.size+news.length)).toArray,?_,⟨hlen,.inr ⟨g,cap,_,rfl,Af,setRow_heap w g cur _ e _ hg,aW,xc,?_,?_⟩⟩,λh0=>by subst h0;rfl,.inl ⟨rfl,by simp,⟨rfl,rfl,rfl,by simp,λk _ hk=>setRow_other w g k _ (λe=>hk (by simp[Value.ownBlock,e]))⟩⟩⟩
    ·simp[Builtin.append_,run_underlying ht,run_underlying iB,sizeOf,typeInfo,hi,hl,aW,hf,Addr.add_lit,bQ]
    ·simp only[zcv,zbb,zco,zch,zbz]
     omega
    ·rw[l4,←hlen]
     exact List.take_left
   ·have holds:∀ j u,xs[j]?=some u->w.cell? ((⟨g,0,none⟩:Addr).add j)=some u:=cz.cells (g:=g) rfl
    have vC:=grown cap (by omega)
    refine ⟨_,_,?_,vC.1,λh0=>by omega,.inr ⟨rfl,vC.2⟩⟩
    have hf:=hs.cells w.drew rfl
    have hold:=run_firstCells_some (P:=P) w.drew inf.size n ⟨g,0,none⟩ n cap xs cz.1 (by simpa using holds)
    have iW:¬ (9223372036854775807<((n:Int)+(m:Int))):=by omega
    have iX:¬ (281474976710656<Builtin.nextslicecap (n+m) cap*inf.bytes):=by
     have:=growslice_fits (need:=n+m) (old:=cap) (by omega) oc
     omega
    simp[Builtin.append_,run_underlying ht,run_underlying iB,sizeOf,typeInfo,zeroValue,hi,hz,hl,aW,iW,iX,Question.forced,hold,hf,newRow,grownCap]
    rw[show (xs++news).toArray=xs.toArray++news.toArray from by simp,Array.append_assoc]
end q
theorem od {w:uC} {ae:Nat->Nat} {base e sz n:Nat} {v:uB} {xs:O uB} {rows:O (O D)} (ho:w.ownsRow base e sz v n xs) (hn:rows.length=n) (hr:∀ row∈rows,row.length=sz)
  (hl:∀ b,v.ownBlock=some b->n*sz<=ae b) (hx:∀ (j:Nat) u c,xs[j]?=some u->rows.flatten[j]?=some c->aJ ae w c u/\u.oneCell'=true):aJ ae w (.sl sz rows) v:=by
 rcases ho.2 with ⟨rfl,rfl⟩|⟨g,cap,cur,rfl,hb,hg,va,xc,qq,l4⟩
 ·have:rows=[]:=zan hn
  subst this
  exact .nil sz _
 ·subst hn
  have xb:=dj hr
  have iY:=ho.cells (g:=g) rfl
  refine .sl sz rows g 0 cap va hr ?_ ?_
  ·intro k hk
   have vE:k<xs.length:=by rw[ho.1];exact hk
   have h1:=iY k xs[k] (zad vE)
   rw[Addr.add_lit] at h1
   have Ah:k<rows.flatten.length:=by rw[xb];exact hk
   exact ⟨by have:=hl g rfl;omega,xs[k],h1,(hx k _ _ (zad vE) (zad Ah)).2⟩
  ·intro i j row c u hi hj hu
   have aG:=n5 (zaa.1 hi).1 (show j<sz by rw[←hr row (zaq hi)];exact (zaa.1 hj).1)
   have vE:i*sz+j<xs.length:=by rw[ho.1];exact aG
   have h1:=iY _ xs[i*sz+j] (zad vE)
   rw[Addr.add_lit,hu] at h1
   cases h1
   exact (hx _ _ _ (zad vE) (gx hr hi hj)).1
structure iZ (P:uF) (ae:Nat->Nat) (w:uC) (sz:Nat) (u:uB) (rs:List (List D)) (news:List uB):Prop where
 src:Src P w sz u rs.length news
 rows:∀ row∈rs,row.length=sz
 rep:∀ (j:Nat) v c,news[j]?=some v->rs.flatten[j]?=some c->aJ ae w c v/\v.oneCell'=true
theorem mZ {P:uF} {ae:Nat->Nat} {w:uC} {sz:Nat} {u:uB} {rows:O (O D)} (h:aJ ae w (.sl sz rows) u):∃ news,iZ P ae w sz u rows news:=by
 obtain ⟨A,c,vs,rfl,hl,hA,na,bG,hr,ja⟩:=sd h
 have xb:=dj hr
 refine ⟨vs,⟨rfl,λw' hw=>?_,hl,λv hv=>?_⟩,hr,ja⟩
 ·cases A with
  | none =>
   have:vs=[]:=zan (by rw[hl,(na rfl).1];simp)
   subst this
   simp[Builtin.firstCells]
  | some ad =>
   rcases hA with h0|⟨b,off,cE⟩
   ·have:vs=[]:=zan (by rw[hl,h0];simp)
    subst this
    simp[Builtin.firstCells,h0,loadCells,loadCellsFrom]
   ·cases cE
    refine run_firstCells_some w' sz rows.length _ _ c vs hl λj v hv=>?_
    rw[Addr.add_lit]
    have:=bG b off rfl j v hv
    simpa [World.cell?,hw] using this
 ·obtain ⟨j,hj⟩:=List.mem_iff_getElem?.1 hv
  have de:=(zaa.1 hj).1
  exact (ja j v _ hj (zad (by omega))).2
section append
variable {P:uF} {g:aw} {base:Nat} {w:uC} {st:St}
def bU.nU (x:bU):Nat:=if x.own=none then x.n*x.sz else 0
theorem dm {x:bU} (h:x.own=none):x.nU=x.n*x.sz:=by simp[bU.nU,h]
theorem gy {x:bU} {p:O (O D)} (h:x.own=some p):x.nU=0:=by simp[bU.nU,h]
theorem Inv.jX (h:Inv g base w st) {t:Nat} {x:bU} (hx:st.aa[t]?=some x) {b:Nat} (hb:(g.tk t).ownBlock=some b):g.ae b=x.nU:=by
 obtain ⟨e,sz,n,own⟩:=x
 cases own with
 | none=>obtain ⟨xs,_,h2⟩:=h.tail t e sz n hx;exact h2 b hb
 | some rows=>obtain ⟨xs,_,h2,_⟩:=h.own t e sz n rows hx;exact h2 b hb
theorem Inv.jb (h:Inv g base w st) {tk:Nat} {x x':bU} (bS:st.aa[tk]?=some x) {v':uB} {w':uC} {vF:O uB} (cq:w'.ownsRow base x'.e x'.sz v' x'.n vF)
  (hc:(v'.ownBlock=(g.tk tk).ownBlock/\w'.heap.size=w.heap.size/\w.grownBy w' (g.tk tk).ownBlock)∨(v'.ownBlock=some w.heap.size/\Below w.heap.size w w'))
  (qF:x.own=none->x'.own=none/\x'.e=x.e/\x'.sz=x.sz/\x.n<=x'.n/\(x'.n=x.n->v'=g.tk tk)/\(∀ b,(g.tk tk).ownBlock=some b->v'.ownBlock=some b->∀ off,off<x.n*x.sz->w'.cell? ⟨b,off,none⟩=w.cell? ⟨b,off,none⟩))
  (xM:∀ rows,x.own=some rows->∀ ab,x'.own=some ab->x'.sz=x.sz/\x.n<=x'.n/\(x.n=x'.n->v'=g.tk tk))
  (ja:∀ ab,x'.own=some ab->dE g.ae w x'.sz x'.n ab vF) :
  ∃ g',g'.tk tk=v'/\(∀ b,v'.ownBlock=some b->g'.ae b=x'.nU)/\Inv g' base w' (st.ah tk x')/\Step base g w st g' w' (st.ah tk x'):=by
 have gz:∀ b,(g.tk tk).ownBlock=some b->g.ae b=x.nU:=λb hb=>h.jX bS hb
 have aG:∀ b,(g.tk tk).ownBlock=some b->base<=b/\b<w.heap.size:=λb hb=>h.gh bS hb
 have hlen:tk<st.aa.length:=(zaa.1 bS).1
 have a6:w.heap.size<=w'.heap.size:=by rcases hc with ⟨_,h1,_⟩|⟨_,h1⟩;omega;exact h1.size
 have nb:w'.os=w.os/\w'.tape=w.tape/\w'.output=w.output:=by rcases hc with ⟨_,_,h1⟩|⟨_,h1⟩<;>exact ⟨h1.os,h1.tape,h1.output⟩
 have bo:∀ k,k<w.heap.size->(g.tk tk).ownBlock≠some k->w'.heap[k]?=w.heap[k]?:=by
  intro k hk aN
  rcases hc with ⟨_,_,h1⟩|⟨_,h1⟩
  ·exact h1.block k hk (zbe aN)
  ·exact h1.block k hk
 have ei:∀ k,k<w.heap.size->(g.tk tk).ownBlock≠some k->v'.ownBlock≠some k:=by
  intro k hk aN
  rcases hc with ⟨h1,_,_⟩|⟨h1,_⟩<;>rw[h1]
  ·exact aN
  ·intro he;cases he;omega
 let g':aw:=⟨λb=>if v'.ownBlock=some b then x'.nU else g.ae b,g.ob,λt=>if t=tk then v' else g.tk t⟩
 have gA:∀ b,v'.ownBlock=some b->g'.ae b=x'.nU:=λb hb=>by show (if _ then _ else _)=_;rw[zam hb]
 have b7:∀ b,v'.ownBlock≠some b->g'.ae b=g.ae b:=λb hb=>by show (if _ then _ else _)=_;rw[zaj hb]
 have dO:g'.tk tk=v':=by show (if tk=tk then v' else _)=_;rw[zam rfl]
 have cT:∀ t,t≠tk->g'.tk t=g.tk t:=λt ht=>by show (if t=tk then v' else _)=_;rw[zaj ht]
 have eI:∀ k,k<base->(g.tk tk).ownBlock≠some k:=λk hk he=>by have:=(aG k he).1;omega
 have jd:Below base w w':=⟨nb.1,nb.2.1,nb.2.2,a6,λk hk=>bo k (zag hk h.base) (eI k hk)⟩
 have vG:x.own=none->x.nU<=x'.nU:=by
  intro hx
  obtain ⟨h1,_,h3,h4,_⟩:=qF hx
  rw[dm hx,dm h1,h3]
  exact zbu _ h4
 have hzero:x.own≠none->x.nU=0:=λhx=>by cases ho:x.own with|none=>exact absurd ho hx|some p=>exact gy ho
 have kV:mR g.ae w g'.ae w':=by
  refine ⟨a6,λb hb=>?_,λb off hb ho=>?_⟩
  ·by_cases he:v'.ownBlock=some b
   ·rw[gA b he]
    have bY:(g.tk tk).ownBlock=some b:=by
     rcases hc with ⟨h1,_,_⟩|⟨h1,_⟩
     ·rw[←h1];exact he
     ·rw[h1] at he;cases he;omega
    rw[gz b bY]
    by_cases hx:x.own=none
    ·exact vG hx
    ·rw[hzero hx];exact zba _
   ·rw[b7 b he];exact zab _
  ·by_cases he:(g.tk tk).ownBlock=some b
   ·rcases hc with ⟨h1,_,_⟩|⟨_,h1⟩
    ·rw[gz b he] at ho
     by_cases hx:x.own=none
     ·rw[dm hx] at ho
      exact (qF hx).2.2.2.2.2 b he (h1.trans he) off ho
     ·rw[hzero hx] at ho;omega
    ·exact h1.cell (p:=⟨b,off,none⟩) hb
   ·exact World.cell?_of_block (w:=w) (a:=⟨b,off,none⟩) (bo b hb he)
 have cU:∀ t y,t≠tk->(st.ah tk x').aa[t]?=some y->st.aa[t]?=some y:=λt y ht hy=>by simpa [St.ah,zbl,zbe ht] using hy
 have je:∀ y,(st.ah tk x').aa[tk]?=some y->y=x':=λy hy=>by
  have:x'=y:=by simpa [St.ah,zbl,hlen] using hy
  exact this.symm
 have hs:fY g w st g' w' (st.ah tk x'):=by
  refine ⟨kV,λ_ _=>rfl,zab _,λt e' qG n' ht=>?_,by simp[St.ah],λt y ab iV hy ho=>?_⟩
  ·by_cases dH:t=tk
   ·subst dH
    rw[bS] at ht
    cases ht
    obtain ⟨h1,h2,h3,h4,h5,_⟩:=qF rfl
    obtain ⟨e1,s1,n1,o1⟩:=x'
    simp only at h1 h2 h3 h4 h5
    subst h1;subst h2;subst h3
    exact ⟨n1,by simp[St.ah,zbl,hlen],h4,λhe=>by rw[dO];exact h5 he⟩
   ·exact ⟨n',by simp[St.ah,zbl,zbe dH,ht],zab _,λ_=>cT t dH⟩
  ·by_cases dH:t=tk
   ·subst dH
    have:=je y hy
    subst this
    cases hx:x.own with
    | none=>rw[(qF hx).1] at ho;cases ho
    | some rows =>
     obtain ⟨h1,h2,h3⟩:=xM rows hx ab ho
     exact ⟨x,rows,bS,hx,h1.symm,h2,λe=>by rw[dO];exact h3 e⟩
   ·exact ⟨y,ab,cU t y dH hy,ho,rfl,zab _,λ_=>cT t dH⟩
 have eJ:∀ o,st.live o->g.ob o<w.heap.size/\(g.tk tk).ownBlock≠some (g.ob o):=λo ho=>⟨(h.l0 ho).1,h.cN tk _ o bS ho⟩
 have xd:∀ o y,st.ak[o]?=some (.raw y)->base<=g'.ob o/\g'.ae (g'.ob o)=0/\w'.heap[g'.ob o]?=some y:=by
  intro o y hx
  obtain ⟨h1,h2,h3⟩:=h.raw o y hx
  obtain ⟨k1,k2⟩:=eJ o ⟨_,hx,by simp⟩
  exact ⟨h1,(b7 _ (ei _ k1 k2)).trans h2,by show w'.heap[g.ob o]?=_;rw[bo _ k1 k2];exact h3⟩
 have a7:∀ t y,t≠tk->(st.ah tk x').aa[t]?=some y->∀ b,(g.tk t).ownBlock=some b->b<w.heap.size/\(g.tk tk).ownBlock≠some b/\v'.ownBlock≠some b:=λt y dH hy b hb=>by
  have h1:=(h.gh (cU t y dH hy) hb).2
  have h2:=h.ed t tk _ _ b dH (cU t _ dH hy) bS hb
  exact ⟨h1,h2,ei b h1 h2⟩
 refine ⟨g',dO,gA,⟨zau h.base a6,?_,?_,xd,h.ne,?_,?_,?_,h.eE.below jd,?_⟩,⟨hs,jd,λb hb=>b7 b (ei b (zag hb h.base) (eI b hb)),λb hb hn=>?_,λb hb hw=>?_⟩⟩
 ·intro o ty cs hx
  obtain ⟨h1,h2,vs,h3,h4,h5⟩:=h.row o ty cs hx
  obtain ⟨k1,k2⟩:=eJ o ⟨_,hx,by simp⟩
  exact ⟨h1,(b7 _ (ei _ k1 k2)).trans h2,vs,by show w'.heap[g.ob o]?=_;rw[bo _ k1 k2];exact h3,h4,λi c u hc hu=>⟨(h5 i c u hc hu).1.mono hs,(h5 i c u hc hu).2⟩⟩
 ·intro o es hx
  obtain ⟨h1,ms,c,h3,h4,h5,h6⟩:=h.map o es hx
  obtain ⟨k1,k2⟩:=eJ o ⟨_,hx,by simp⟩
  exact ⟨h1,ms,c,by show w'.heap[g.ob o]?=_;rw[bo _ k1 k2];exact h3,h4,λi k y m a b=>⟨(h5 i k y m a b).1,(h5 i k y m a b).2.mono hs⟩,h6⟩
 ·intro t e' qG n' ht
  by_cases dH:t=tk
  ·subst dH
   have:=je _ ht
   subst this
   rw[dO]
   exact ⟨_,cq,λb hb=>(gA b hb).trans (dm rfl)⟩
  ·obtain ⟨ys,k1,k2⟩:=h.tail t e' qG n' (cU t _ dH ht)
   rw[cT t dH]
   exact ⟨ys,bB k1 λb hb=>bo b (a7 t _ dH ht b hb).1 (a7 t _ dH ht b hb).2.1,λb hb=>by rw[b7 b (a7 t _ dH ht b hb).2.2];exact k2 b hb⟩
 ·intro t t' y y' b aN ht eK hb
  by_cases h1:t=tk
  ·subst h1
   rw[dO] at hb
   rw[cT t' (zbe aN)]
   intro bY
   exact (a7 t' _ (zbe aN) eK b bY).2.2 hb
  ·rw[cT t h1] at hb
   by_cases h2:t'=tk
   ·subst h2
    rw[dO]
    exact (a7 t _ h1 ht b hb).2.2
   ·rw[cT t' h2]
    exact h.ed t t' _ _ b aN (cU t _ h1 ht) (cU t' _ h2 eK) hb
 ·intro t y o ht ho
  obtain ⟨k1,k2⟩:=eJ o ho
  by_cases h1:t=tk
  ·subst h1
   rw[dO]
   exact ei _ k1 k2
  ·rw[cT t h1]
   exact h.cN t y o (cU t _ h1 ht) ho
 ·intro t e' qG n' ab ht
  by_cases dH:t=tk
  ·subst dH
   have:=je _ ht
   subst this
   rw[dO]
   exact ⟨_,cq,λb hb=>(gA b hb).trans (gy rfl),(ja ab rfl).mono kV⟩
  ·obtain ⟨ys,k1,k2,k3⟩:=h.own t e' qG n' ab (cU t _ dH ht)
   rw[cT t dH]
   exact ⟨ys,bB k1 λb hb=>bo b (a7 t _ dH ht b hb).1 (a7 t _ dH ht b hb).2.1,λb hb=>by rw[b7 b (a7 t _ dH ht b hb).2.2];exact k2 b hb,k3.mono kV⟩
 ·have aN:(g.tk tk).ownBlock≠some b:=λe=>hn (.inr ⟨tk,x,bS,e⟩)
  exact ⟨bo b hb aN,b7 b (ei b hb aN)⟩
 ·rcases hw with ⟨o,h1,h2⟩|⟨t,y,h1,h2⟩
  ·exact .inl ⟨o,h1,h2⟩
  ·by_cases dH:t=tk
   ·subst dH
    rw[dO] at h2
    rcases hc with ⟨c1,_,_⟩|⟨c1,_⟩
    ·exact .inr ⟨t,x,bS,by rw[←c1];exact h2⟩
    ·rw[c1] at h2;cases h2;omega
   ·rw[cT t dH] at h2
    exact .inr ⟨t,y,cU t y dH h1,h2⟩
theorem Inv.append (h:Inv g base w st) {tk e sz n m:Nat} (bS:st.aa[tk]?=some ⟨e,sz,n,none⟩) {v':uB} {w':uC} {xs news:O uB} (cz:w.ownsRow base e sz (g.tk tk) n xs) (cq:w'.ownsRow base e sz v' (n+m) (xs++news))
  (vD:m=0->v'=g.tk tk)
  (hc:(v'.ownBlock=(g.tk tk).ownBlock/\w'.heap.size=w.heap.size/\w.grownBy w' (g.tk tk).ownBlock)∨(v'.ownBlock=some w.heap.size/\Below w.heap.size w w')) :
  ∃ g',g'.tk tk=v'/\(∀ b,v'.ownBlock=some b->g'.ae b=(n+m)*sz)/\Inv g' base w' (st.ah tk ⟨e,sz,n+m,none⟩)/\Step base g w st g' w' (st.ah tk ⟨e,sz,n+m,none⟩):=by
 obtain ⟨g',h1,h2,h3,h4⟩:=h.jb (x':=⟨e,sz,n+m,none⟩) bS cq hc
  (λ_=>⟨rfl,rfl,rfl,Nat.le_add_right _ _,λhe=>vD (by simp only at he;omega),λb he hv off ho=>by
   have xN:off<xs.length:=by rw[cz.1];exact ho
   have c1:=cz.cells he off xs[off] (zad xN)
   have c2:=cq.cells hv off xs[off] (by rw[zak xN];exact zad xN)
   rw[Addr.add_lit,zbd] at c1 c2
   rw[c1,c2]⟩)
  (λrows hh=>by cases hh) (λrows hh=>by cases hh)
 exact ⟨g',h1,λb hb=>(h2 b hb).trans (dm rfl),h3,h4⟩
end append
section rules
variable {P:uF} {f:Ctx} {N:Nat} {S:Start} {Q:EV->St->Prop} {k:List Item} {base:Nat} {env:Env} {st:St} {ops rest:List Oper}
 {d:Option Tmp} {ty:uE} {pos:String} {after:uD Edge} {gd:Option (Nat×Bool)} {t t2 e:uE} {x y:uG}
theorem kW {w:uC} {ty sz:Nat} {inf:TypeInfo} {z:uB} {d2:TypeDesc} (ht:P.underlying t=some (.slice e)) (iB:P.underlying t2=some d2) (mY:d2=.string∨∃ e2,d2=.slice e2) (hi:P.info? e=some inf) (hz:inf.zero=some z) (a6:inf.size=sz)
  {u:uB} {m:Nat} {news:List uB} (hs:Src P w sz u m news) (nT:m<=4611686018427387904) (hn:m*inf.bytes<=140737488355328) (A:Option Addr) :
  (m=0->(Builtin.append_ #[t,t2] ty #[.slice A 0 0,u]).run P w=.ok (.slice A 0 0) w) /\
  (m≠0->(Builtin.append_ #[t,t2] ty #[.slice A 0 0,u]).run P w=(Builtin.append_ #[t,t2] ty #[.slice none 0 0,u]).run P w):=by
 have hl:=hs.len
 have Ai:(match d2 with|.int _=>true|_=>false)=false:=by rcases mY with rfl|⟨e2,rfl⟩<;>rfl
 subst a6
 constructor
 ·intro hm
  subst hm
  have xe:news=[]:=zan (by simpa using hs.size)
  subst xe
  have hf:=hs.cells w rfl
  rcases mY with rfl|⟨e2,rfl⟩<;>cases A<;>simp[Builtin.append_,run_underlying ht,run_underlying iB,sizeOf,typeInfo,hi,hl,hf,storeCells]
 ·intro hm
  have nV:¬ (m<=0):=by omega
  have h1:∀ w',(Builtin.firstCells inf.size 0 (.slice A 0 0)).run P w'=.ok #[] w':=λw'=>by cases A<;>simp[Builtin.firstCells,loadCells,loadCellsFrom]
  have h2:∀ w',(Builtin.firstCells inf.size 0 (.slice none 0 0)).run P w'=.ok #[] w':=λw'=>by simp[Builtin.firstCells]
  have iW:¬ (9223372036854775807<(m:Int)):=by omega
  have iX:¬ (281474976710656<Builtin.nextslicecap m 0*inf.bytes):=by
   have:=growslice_fits (need:=m) (old:=0) (by omega) hn
   omega
  rcases mY with rfl|⟨e2,rfl⟩<;>simp[Builtin.append_,run_underlying ht,run_underlying iB,sizeOf,typeInfo,hi,hl,hm,h1,h2,iW,iX,Question.forced]
theorem jY {g:aw} {w:uC} {v u z:uB} {sz tk:Nat} {rows ab:O (O D)} {inf:TypeInfo} {d2:TypeDesc} (ht:P.underlying t=some (.slice e)) (iB:P.underlying t2=some d2) (mY:d2=.string∨∃ e2,d2=.slice e2)
  (hi:P.info? e=some inf) (hz:inf.zero=some z) (a6:inf.size=sz) (eh:z.cells.size=sz) (hinv:Inv g base w st) (l5:ai g w st (.cF sz rows tk) v) (bS:st.aa[tk]?=some ⟨e,sz,rows.length,none⟩) (vb:v=g.tk tk)
  (hn:(rows.length+ab.length)*inf.bytes<=140737488355328) (nT:rows.length+ab.length<=4611686018427387904)
  {news:O uB} (nc:iZ P g.ae w sz u ab news) :
  ∃ v' g' w',(Builtin.append_ #[t,t2] ty #[v,u]).run P w=.ok v' w'/\ai g' w' (st.ah tk ⟨e,sz,(rows++ab).length,none⟩) (.cF sz (rows++ab) tk) v'/\Inv g' base w' (st.ah tk ⟨e,sz,(rows++ab).length,none⟩) /\
   Step base g w st g' w' (st.ah tk ⟨e,sz,(rows++ab).length,none⟩):=by
 rw[show (rows++ab).length=rows.length+ab.length from zbb]
 cases l5 with
 | cF _ _ _ _ e0 n0 hd fK xe zm =>
  rw[bS] at fK
  cases fK
  obtain ⟨xs,cz,kX⟩:=hinv.tail tk e sz _ bS
  obtain ⟨v',w',aD,cq,vD,hc⟩:=fJ (P:=P) (ty:=ty) w ht iB mY hi hz a6 eh cz nc.src (by simp only[maxLen];omega) hn hinv.base
  obtain ⟨g',xO,oe,aM,fL⟩:=hinv.append bS cz cq vD hc
  refine ⟨v',g',w',?_,?_,aM,fL⟩
  ·rw[vb];exact aD
  ·have hlen:tk<st.aa.length:=(zaa.1 bS).1
   obtain ⟨A,c,vs,zn,xf,hA,na,bG,xd,ja⟩:=sd hd
   refine .cF sz _ tk v' e (rows.length+ab.length) (od cq (by simp) ?_ (λb hb=>Nat.le_of_eq (oe b hb).symm) ?_) (by simp[St.ah,zbl,hlen]) (by simp) (λ_=>.inl xO.symm)
   ·intro row hr
    rcases zbq.1 hr with h|h
    ·exact xd row h
    ·exact nc.rows row h
   ·intro j u c' hu ij
    rw[List.flatten_append] at ij
    have xb:=dj xd
    have qH:=cz.1
    by_cases hj:j<xs.length
    ·rw[zak hj] at hu
     rw[zak (by omega)] at ij
     have Aj:j<vs.length:=by omega
     have kH:vs[j]?=some u:=by
      have e1:=zad Aj
      rcases hA with h0|⟨b,off,cE⟩
      ·rw[h0] at qH;omega
      ·have c1:=bG b off cE j _ e1
       have l6:(g.tk tk).ownBlock=some b/\off=0:=by
        rcases cz.2 with ⟨h1,h2⟩|⟨gb,cap,cur,h1,_⟩
        ·rw[h2] at qH;omega
        ·rw[←vb,zn,cE] at h1
         cases h1
         exact ⟨by rw[←vb,zn,cE];rfl,rfl⟩
       have c2:=cz.cells l6.1 j u hu
       rw[Addr.add_lit] at c2
       rw[l6.2,c2] at c1
       cases c1
       exact e1
     exact ⟨(ja j u c' kH ij).1.mono fL.bn.bX,(ja j u c' kH ij).2⟩
    ·rw[zav (by omega)] at hu
     rw[zav (by omega)] at ij
     have e1:rows.flatten.length=xs.length:=by omega
     rw[e1] at ij
     exact ⟨(nc.rep _ u c' hu ij).1.mono fL.bn.bX,(nc.rep _ u c' hu ij).2⟩
theorem kY {g:aw} {w:uC} {v u z:uB} {sz tk:Nat} {rows ab:O (O D)} {inf:TypeInfo} {d2:TypeDesc} (ht:P.underlying t=some (.slice e)) (iB:P.underlying t2=some d2) (mY:d2=.string∨∃ e2,d2=.slice e2)
  (hi:P.info? e=some inf) (hz:inf.zero=some z) (a6:inf.size=sz) (eh:z.cells.size=sz) (hinv:Inv g base w st) (l5:ai g w st (.cF sz rows tk) v) (bS:st.aa[tk]?=some ⟨e,sz,rows.length,none⟩)
  (hn:(rows.length+ab.length)*inf.bytes<=140737488355328) (nT:rows.length+ab.length<=4611686018427387904)
  {news:O uB} (nc:iZ P g.ae w sz u ab news) :
  ∃ v' g' w',(Builtin.append_ #[t,t2] ty #[v,u]).run P w=.ok v' w'/\ai g' w' (st.ah tk ⟨e,sz,(rows++ab).length,none⟩) (.cF sz (rows++ab) tk) v'/\Inv g' base w' (st.ah tk ⟨e,sz,(rows++ab).length,none⟩) /\
   Step base g w st g' w' (st.ah tk ⟨e,sz,(rows++ab).length,none⟩):=by
 by_cases vb:v=g.tk tk
 ·exact jY ht iB mY hi hz a6 eh hinv l5 bS vb hn nT nc
 cases l5 with
 | cF _ _ _ _ e0 n0 hd fK xe zm =>
  rw[bS] at fK
  cases fK
  obtain ⟨h0,A,hA⟩:=(zm rfl).resolve_left vb
  have xP:rows=[]:=zan h0
  subst xP
  simp only[List.length_nil,zbd] at hn nT
  obtain ⟨q1,q2⟩:=kW (P:=P) (ty:=ty) ht iB mY hi hz a6 nc.src nT hn A
  have og:st.aa[tk]?=some ⟨e,sz,0,none⟩:=bS
  have hlen:tk<st.aa.length:=(zaa.1 og).1
  by_cases hm:ab.length=0
  ·have nd:ab=[]:=zan hm
   subst nd
   have bo:st.ah tk ⟨e,sz,0,none⟩=st:=by
    unfold St.ah
    have:st.aa.set tk ⟨e,sz,0,none⟩=st.aa:=by
     apply List.ext_getElem?
     intro i
     rw[zbl]
     split
     ·rename_i fZ;subst fZ;rw[og]
     ·rfl
    rw[this]
   simp only[zbr,List.length_nil]
   rw[bo]
   exact ⟨v,g,w,by rw[hA];exact q1 rfl,.cF sz [] tk v e 0 hd og (zab _) (λ_=>.inr ⟨rfl,A,hA⟩),hinv,.refl _ _ _ _⟩
  ·obtain ⟨xs,cz,_⟩:=hinv.tail tk e sz _ og
   have oh:xs=[]:=zan (by rw[cz.1];simp)
   subst oh
   obtain ⟨v',w',aD,cq,_,hc⟩:=fJ (P:=P) (ty:=ty) w ht iB mY hi hz a6 eh (World.ownsRow_nil w base e sz) nc.src (by simp only[maxLen];omega) (by simpa using hn) hinv.base
   have ij:v'.ownBlock=some w.heap.size/\Below w.heap.size w w':=by
    rcases hc with ⟨h1,_⟩|h
    ·exfalso
     rcases cq.2 with ⟨_,h2⟩|⟨gb,cap,cur,h2,_⟩
     ·exact hm (by omega)
     ·rw[h2] at h1;cases h1
    ·exact h
   obtain ⟨g',xO,oe,aM,fL⟩:=hinv.append (xs:=[]) og cz cq (λh=>absurd h hm) (.inr ij)
   have e1:([]++ab:O (O D)).length=0+ab.length:=by simp
   rw[e1]
   refine ⟨v',g',w',by rw[hA,q2 hm];exact aD,?_,aM,fL⟩
   refine .cF sz _ tk v' e (0+ab.length) (od cq (by simp) (λrow hr=>nc.rows row (by simpa using hr)) (λb hb=>Nat.le_of_eq (oe b hb).symm) λj u c' hu ij=>?_) (by simp[St.ah,zbl,hlen]) (by simp) (λ_=>.inl xO.symm)
   rw[List.nil_append] at hu ij
   exact ⟨(nc.rep _ u c' hu ij).1.mono fL.bn.bX,(nc.rep _ u c' hu ij).2⟩
theorem jZ {sz tk:Nat} {rows ab:O (O D)} {inf:TypeInfo} {z:uB} {d2:TypeDesc} (ht:P.underlying t=some (.slice e)) (iB:P.underlying t2=some d2) (mY:d2=.string∨∃ e2,d2=.slice e2)
  (hi:P.info? e=some inf) (hz:inf.zero=some z) (a6:inf.size=sz) (eh:z.cells.size=sz) (hx:bX env x=some (.cF sz rows tk)) (bS:st.aa[tk]?=some ⟨e,sz,rows.length,none⟩)
  (hn:(rows.length+ab.length)*inf.bytes<=140737488355328) (nT:rows.length+ab.length<=4611686018427387904)
  (te:∀ (g:aw) (w:uC) (tmps:uD uB),aH g w st env tmps->∃ news,iZ P g.ae w sz (Act.eval ⟨tmps,[]⟩ y) ab news) :
  ib P base env st ⟨d,.call ⟨.builtin .append,#[x,y],#[t,t2]⟩,ty,pos,after,gd⟩ (.cF sz (rows++ab) tk) (st.ah tk ⟨e,sz,(rows++ab).length,none⟩):=by
 intro g w tmps hinv he
 obtain ⟨news,nc⟩:=te g w tmps he
 obtain ⟨v',g',w',aD,h1,h2,h3⟩:=kY (ty:=ty) ht iB mY hi hz a6 eh hinv (iT he hx) bS hn nT nc
 exact ⟨v',g',w',by simp[execOp,resolve,invoke,builtin,aD],h1,h2,h3⟩
theorem oi {sz tk:Nat} {rows ab:O (O D)} {inf:TypeInfo} {z:uB} {ev:EV} (ht:P.underlying t=some (.slice e)) (hi:P.info? e=some inf) (hz:inf.zero=some z) (a6:inf.size=sz) (eh:z.cells.size=sz)
  (hx:bX env x=some (.cF sz rows tk)) (bS:st.aa[tk]?=some ⟨e,sz,rows.length,none⟩) (hy:bX env y=some ev) (hs:jV ev=some (sz,ab))
  (hn:(rows.length+ab.length)*inf.bytes<=140737488355328) (nT:rows.length+ab.length<=4611686018427387904) :
  ib P base env st ⟨d,.call ⟨.builtin .append,#[x,y],#[t,t]⟩,ty,pos,after,gd⟩ (.cF sz (rows++ab) tk) (st.ah tk ⟨e,sz,(rows++ab).length,none⟩) :=
 jZ ht ht (.inr ⟨e,rfl⟩) hi hz a6 eh hx bS hn nT λg w tmps he=>mZ (jW hs (iT he hy))
end rules
def lay (cells new:uD uB) (off:Nat):uD uB:=new.zipIdx.foldl (λcs (c,j)=>cs.setIfInBounds (off+j) c) cells
theorem j0 (off:Nat):∀ (l:O uB) (k:Nat) (cells:uD uB),((l.zipIdx k).foldl (λ(cs:uD uB) (p:uB×Nat)=>cs.setIfInBounds (off+p.2) p.1) cells).size=cells.size /\
  ∀ i,i<cells.size->((l.zipIdx k).foldl (λ(cs:uD uB) (p:uB×Nat)=>cs.setIfInBounds (off+p.2) p.1) cells)[i]?=if off+k<=i/\i<off+k+l.length then l[i-(off+k)]? else cells[i]?
 | [],k,cells=>by simp;intro i hi h1 h2;omega
 | v::l,k,cells=>by
  obtain ⟨h1,h2⟩:=j0 off l (k+1) (cells.setIfInBounds (off+k) v)
  rw[List.zipIdx_cons,List.foldl_cons]
  refine ⟨by rw[h1];simp,λi hi=>?_⟩
  rw[h2 i (by simpa using hi)]
  by_cases hc:off+(k+1)<=i/\i<off+(k+1)+l.length
  ·rw[zam hc,zam (by simp;omega)]
   have:i-(off+k)=(i-(off+(k+1)))+1:=by omega
   rw[this,List.getElem?_cons_succ]
  ·rw[zaj hc]
   by_cases he:i=off+k
   ·subst he
    rw[zam (by simp)]
    simp[hi]
   ·rw[zaj (by simp;omega)]
    simp[zar,zbe he]
theorem qI (cells new:uD uB) (off:Nat) (h:off+new.size<=cells.size) :
  (lay cells new off).size=cells.size/\∀ i,i<cells.size->(lay cells new off)[i]?=if off<=i/\i<off+new.size then new[i-off]? else cells[i]?:=by
 have:=j0 off new.toList 0 cells
 unfold lay
 rw[←Array.foldl_toList,Array.toList_zipIdx]
 simpa using this
def dn (P:uF) (t:uE):Nat:=match P.info? t with
 | some i=>i.size
 | none=>0
section rules
variable {P:uF} {f:Ctx} {N:Nat} {S:Start} {Q:EV->St->Prop} {k:List Item} {base:Nat} {env:Env} {st:St} {ops rest:List Oper}
 {d:Option Tmp} {ty:uE} {pos:String} {after:uD Edge} {gd:Option (Nat×Bool)} {t t2 e:uE} {x y:uG}
theorem bM {inf:TypeInfo} {z:uB} (hi:P.info? t=some inf) (hz:inf.zero=some z) (w:uC):(zeroValue t).run P w=.ok z w:=by simp[zeroValue,typeInfo,hi,hz]
theorem j4 (fs:O Field) (h:∀ f∈fs,(P.info? f.type).isSome) (w:uC):(fs.mapM (λf=>do pure (f.offset,←sizeOf f.type):Field->Sem (Nat×Nat))).run P w=.ok (fs.map λf=>(f.offset,dn P f.type)) w:=by
 induction fs with
 | nil=>rfl
 | cons f fs ih =>
  obtain ⟨i,hi⟩:=zax.1 (h f (by simp))
  have xQ:=ih (λg hg=>h g (by simp[hg]))
  simp only[List.mapM_cons,Sem.run_bind,aF hi,Result.andThen_ok,Sem.run_pure,xQ,zcj,dn,hi]
end rules
def tmpsOf:List uG->List Tmp
 | []=>[]
 | .tmp t::l=>t::tmpsOf l
 | _::l=>tmpsOf l
def jf:Op->List Tmp
 | .move x|.assign x|.box _ x|.load _ x|.nilCheck x|.unOp _ _ x|.convert _ _ x|.sliceToArrayPointer _ x|.makeInterface _ x
 | .makeChan _ x|.fieldAddr _ x _|.field _ x _|.range _ x|.next x _|.entry x|.typeAssert x _ _ _|.extract x _|.panic x|.recv _ x _=>tmpsOf [x]
 | .pick c a b=>tmpsOf [c,a,b]
 | .build _ ps|.buildSlice _ _ ps=>tmpsOf (ps.toList.map (·.2))
 | .store _ a v|.binOp _ _ a v _|.makeSlice _ a v|.indexAddr _ a v|.index _ a v|.lookup _ a v _|.mapEntry _ a v|.send a v=>tmpsOf [a,v]
 | .makeFunc _ first captured=>tmpsOf (first.toList++captured.toList)
 | .makeMap _ r=>tmpsOf r.toList
 | .slice _ x l h m=>tmpsOf (x::(l.toList++h.toList++m.toList))
 | .mapUpdate _ m k v|.entryStore _ m k v|.insert _ m k v=>tmpsOf [m,k,v]
 | .call c=>tmpsOf ((match c.callee with|.value f=>[f]|.invoke r _=>[r]|.builtin _=>[])++c.args.toList)
 | _=>[]
def dU (l:List Oper) (o:Oper):List Tmp:=match o.guard with
 | none=>jf o.op
 | some (j,_)=>match (l[j]?).bind (·.dst) with
  | some t=>t::jf o.op
  | none=>jf o.op
def fm (env:Env):List Tmp->Env
 | []=>[]
 | t::ts=>match lookup t env with
  | some x=>(t,x)::fm env ts
  | none=>fm env ts
def bp (l:List Oper) (o:Oper) (env:Env):Env:=fm env (dU l o)
theorem cV {env:Env} {t:Tmp} {y:EV}:∀ {ts:O Tmp},lookup t (fm env ts)=some y->t∈ts/\lookup t env=some y
 | [],h=>by simp[fm,lookup] at h
 | s::ts,h=>by
  unfold fm at h
  split at h
  ·rename_i x hx
   unfold lookup at h
   cases hb:Nat.beq t s with
   | true =>
    rw[hb] at h
    have:=zae hb
    subst this
    exact ⟨by simp,hx.trans h⟩
   | false =>
    rw[hb] at h
    obtain ⟨h1,h2⟩:=cV h
    exact ⟨by simp[h1],h2⟩
  ·obtain ⟨h1,h2⟩:=cV h
   exact ⟨by simp[h1],h2⟩
def cA (acc:List Nat):List Edge->Nat
 | []=>0
 | e::es=>(if Region.binds .any e then 2 ^ e.on ||| acc.getD e.on 0 else 0) ||| cA acc es
def aE:List Oper->List Nat->List Nat
 | [],acc=>acc
 | o::l,acc=>aE l (acc++[cA acc o.after.toList])
def cH (listed:uD Bool) (i m:Nat):Prop:=listed.getD i false=true->∀ j,m.testBit j=true->listed.getD j false=true
def fp (ops:List Oper) (listed:uD Bool):Prop:=∀ (i:Nat) o,ops[i]?=some o->listed.getD i false=true->∀ e∈o.after,Region.binds .any e=true->listed.getD e.on false=true
theorem cr {listed:uD Bool} {acc:O Nat} (h:∀ (k:Nat) m,acc[k]?=some m->cH listed k m):∀ (es:O Edge),(∀ e∈es,Region.binds .any e=true->listed.getD e.on false=true)->∀ j,(cA acc es).testBit j=true->listed.getD j false=true
 | [],_,j,hj=>by simp[cA] at hj
 | e::es,he,j,hj=>by
  unfold cA at hj
  rw[Nat.testBit_or,zbs] at hj
  rcases hj with hj|hj
  ·split at hj
   ·rename_i hb
    have zo:=he e (by simp) hb
    rw[Nat.testBit_or,zbs] at hj
    rcases hj with hj|hj
    ·rw[Nat.testBit_two_pow] at hj
     have:e.on=j:=by simpa using hj
     rw[←this];exact zo
    ·rw[zbh] at hj
     cases hm:acc[e.on]? with
     | none=>rw[hm] at hj;simp at hj
     | some m=>rw[hm] at hj;exact h e.on m hm zo j hj
   ·simp at hj
  ·exact cr h es (λe' se=>he e' (by simp[se])) j hj
theorem ej {ops:O Oper} {listed:uD Bool} (hc:fp ops listed):∀ (l:O Oper) (acc:O Nat),(∀ j:Nat,l[j]?=ops[acc.length+j]?)->(∀ (k:Nat) m,acc[k]?=some m->cH listed k m) ->
  ∀ (k:Nat) m,(aE l acc)[k]?=some m->cH listed k m
 | [],acc,_,h=>h
 | o::l,acc,hl,h=>by
  unfold aE
  refine ej hc l _ (λj=>by have:=hl (j+1);simpa [zay,zcg 1 j] using this) λk m hk=>?_
  by_cases aG:k<acc.length
  ·rw[zak aG] at hk;exact h k m hk
  ·have kT:=(zaa.1 hk).1
   simp at kT
   have:k=acc.length:=by omega
   subst this
   have:m=cA acc o.after.toList:=by simpa [eq_comm] using hk
   subst this
   intro jg
   have ho:ops[acc.length]?=some o:=by simpa using (hl 0).symm
   exact cr h _ (λe he hb=>hc _ o ho jg e (by simpa using he) hb)
theorem cW {ops:O Oper} {listed:uD Bool} (hc:fp ops listed) {i:Nat} {o:Oper} (ho:ops[i]?=some o) (hr:∀ e∈o.after,Region.binds .any e=true->listed.getD e.on false=true) :
  ∀ j,((aE ops []).getD i 0).testBit j=true->listed.getD j false=true:=by
 -- list it: the greater set is closed,too,but for i itself: go by the mask's own making
 have key:∀ (l:O Oper) (acc:O Nat),(∀ j:Nat,l[j]?=ops[acc.length+j]?)->(∀ (k:Nat) m,acc[k]?=some m->cH listed k m)->(acc.length<=i) ->
   ∃ tf,(aE l acc)[i]?=some (cA tf o.after.toList)/\∀ (k:Nat) m,tf[k]?=some m->cH listed k m:=by
  intro l
  induction l with
  | nil =>
   intro acc hl _ hle
   have:=hl (i-acc.length)
   rw[show acc.length+(i-acc.length)=i by omega,ho] at this
   simp at this
  | cons o' l ih =>
   intro acc hl hg hle
   have mX:∀ j:Nat,l[j]?=ops[(acc++[cA acc o'.after.toList]).length+j]?:=λj=>by have:=hl (j+1);simpa [zay,zcg 1 j] using this
   have Ak:∀ (k:Nat) m,(acc++[cA acc o'.after.toList])[k]?=some m->cH listed k m:=by
    intro k m hk
    by_cases aG:k<acc.length
    ·rw[zak aG] at hk;exact hg k m hk
    ·have kT:=(zaa.1 hk).1
     simp at kT
     have:k=acc.length:=by omega
     subst this
     have:m=cA acc o'.after.toList:=by simpa [eq_comm] using hk
     subst this
     intro jg
     have bR:ops[acc.length]?=some o':=by simpa using (hl 0).symm
     exact cr hg _ (λe he hb=>hc _ o' bR jg e (by simpa using he) hb)
   by_cases he:acc.length=i
   ·subst he
    have bR:o'=o:=by
     have:=hl 0
     rw[zcr,ho] at this
     simpa using this
    subst bR
    have hm:∀ (l:O Oper) (acc:O Nat) (k:Nat) m,acc[k]?=some m->(aE l acc)[k]?=some m:=by
     intro l
     induction l with
     | nil=>intro acc k m h;exact h
     | cons Bp l xQ =>
      intro acc k m h
      unfold aE
      exact xQ _ k m (by rw[zak (zaa.1 h).1];exact h)
    refine ⟨acc,?_,hg⟩
    unfold aE
    exact hm l _ _ _ (by simp)
   ·unfold aE
    exact ih _ mX Ak (by simp;omega)
 obtain ⟨tf,h1,h2⟩:=key ops [] (by simp) (by simp) (zba _)
 intro j hj
 rw[zbh,h1,Option.getD_some] at hj
 exact cr h2 _ (λe he hb=>hr e (by simpa using he) hb) j hj
def bD (n:Nat) (q:Nat->Bool):Bool:=(List.range n).all q
theorem aq {n:Nat} {q:Nat->Bool} (h:bD n q=true) {i:Nat} (hi:i<n):q i=true:=by
 unfold bD at h
 rw[zas] at h
 exact h i (List.mem_range.2 hi)
def aj (l:List Oper) (i:Nat):Option Tmp:=(l[i]?).bind (·.dst)
def fM (l:List Oper) (p:Nat):Bool :=
 let ms:=aE l []
 bD p (λi=>match l[i]? with
  | some o=>(dU l o).all λt=>bD p λj=>i==j || aj l j != some t || (decide (j<i) && (ms.getD i 0).testBit j) || (decide (i<j) && (ms.getD j 0).testBit i)
  | none=>true) &&
 bD p (λi=>bD p λj=>i==j || (aj l i).isNone || aj l i != aj l j) &&
 bD l.length (λi=>decide (i<p) || bD i λj=>(ms.getD i 0).testBit j) &&
 bD l.length (λi=>match l[i]? with
  | some o=>o.after.toList.all λe=>!Region.binds .any e || decide (e.on<i)
  | none=>true) &&
 decide (p<=l.length)
def dp (P:uF) (l:List Oper) (env:Env) (st:St) (o:Oper) (x:EV):Prop :=
 (o.guard=none/\jP P env st o x) ∨
 ∃ (j:Nat) (want:Bool) (t:Tmp) (c:EV) (b:Bool) (y:EV) (ay:Env),o.guard=some (j,want)/\(l[j]?).bind (·.dst)=some t/\lookup t env=some c/\iA c want=some b/\x=.gd b y/\gw b env ay/\(b=true->jP P ay st o y)
def aU:Env->List Oper->List EV->Env
 | env,o::os,x::xs=>aU (env.put o.dst x) os xs
 | env,_,_=>env
def eL (P:uF) (N:Nat) (l:List Oper) (st:St):List Oper->List EV->Env->Prop
 | [],[],_=>True
 | o::os,x::xs,env=>aK N o.dst=true/\dp P l (bp l o env) st o x/\eL P N l st os xs (env.put o.dst x)
 | _,_,_=>False
theorem eL.length {P:uF} {N:Nat} {l:O Oper} {st:St}:∀ {os:O Oper} {xs:O EV} {env:Env},eL P N l st os xs env->xs.length=os.length
 | [],[],_,_=>rfl
 | o::os,x::xs,env,h=>by simp[eL.length h.2.2]
 | [],x::xs,_,h=>h.elim
 | o::os,[],_,h=>h.elim
theorem kZ {env:Env} {d:J Tmp} {x:EV} {s:Tmp}:lookup s (env.put d x)=if d=some s then some x else lookup s env:=by
 cases d with
 | none=>simp[Env.put]
 | some d =>
  simp only[Env.put,lookup]
  cases hb:Nat.beq s d with
  | true=>have:=zae hb;subst this;simp
  | false =>
   have:¬ d=s:=by rintro rfl;rw[zbv] at hb;cases hb
   simp[this]
theorem bq {s:Tmp} {y:EV}:∀ {os:O Oper} {xs:O EV} {env:Env},xs.length=os.length->lookup s (aU env os xs)=some y ->
  (∃ (j:Nat) (o:Oper),os[j]?=some o/\xs[j]?=some y/\o.dst=some s)∨((∀ (j:Nat) (o:Oper),os[j]?=some o->o.dst≠some s)/\lookup s env=some y)
 | [],[],env,_,h=>.inr ⟨by simp,h⟩
 | o::os,x::xs,env,hl,h=>by
  rcases bq (os:=os) (xs:=xs) (env:=env.put o.dst x) (by simpa using hl) h with ⟨j,o',h1,h2,h3⟩|⟨h1,h2⟩
  ·exact .inl ⟨j+1,o',by simpa using h1,by simpa using h2,h3⟩
  ·rw[kZ] at h2
   split at h2
   ·rename_i hd
    cases h2
    exact .inl ⟨0,o,rfl,rfl,hd⟩
   ·rename_i hd
    refine .inr ⟨λj o' ho=>?_,h2⟩
    cases j with
    | zero=>simp at ho;subst ho;exact hd
    | succ j=>exact h1 j o' (by simpa using ho)
 | [],_::_,_,hl,_=>by simp at hl
 | _::_,[],_,hl,_=>by simp at hl
theorem eL.get {P:uF} {N:Nat} {l:O Oper} {st:St}:∀ {os:O Oper} {xs:O EV} {env:Env} {i:Nat} {o:Oper},eL P N l st os xs env->os[i]?=some o ->
  ∃ x,xs[i]?=some x/\aK N o.dst=true/\dp P l (bp l o (aU env (os.take i) (xs.take i))) st o x
 | o'::os,x::xs,env,0,o,h,ho=>by
  simp at ho;subst ho
  exact ⟨x,rfl,h.1,by simpa [aU] using h.2.1⟩
 | o'::os,x::xs,env,i+1,o,h,ho=>by
  obtain ⟨y,h1,h2,h3⟩:=eL.get (i:=i) h.2.2 (by simpa using ho)
  exact ⟨y,by simpa using h1,h2,by simpa [aU] using h3⟩
 | [],xs,env,i,o,h,ho=>by simp at ho
 | o'::os,[],_,_,_,h,_=>h.elim
section drawn
variable {P:uF} {f:Ctx} {N:Nat} {S:Start} {Q:EV->St->Prop} {k:List Item}
theorem iC {l:List Oper} {p:Nat} (om:∀ i,p<=i->i<l.length->∀ j,j<i->((aE l []).getD i 0).testBit j=true)
  (dq:∀ (i:Nat) o,l[i]?=some o->∀ e∈o.after,Region.binds .any e=true->e.on<i) :
  ∀ (fuel t m:Nat) (listed:uD Bool),p<=m->m<=l.length->l.length-m<=fuel->listed.size=l.length->(∀ i,i<l.length->listed.getD i true=decide (i<m)) ->
   Region.linearise.go .any l.toArray fuel t listed []=List.range' m (l.length-m)
 | fuel,t,m,listed,hp,hm,hf,hs,hl=>by
  have hD:∀ i,i<l.length->listed.getD i false=decide (i<m):=λi hi=>by
   rw[←hl i hi];simp[zah,hs,hi]
  have cJ:fp l listed:=by
   intro i o ho sf e he hb
   have hi:=(zaa.1 ho).1
   have:=dq i o ho e he hb
   rw[hD i hi] at sf
   rw[hD _ (by omega)]
   simp at sf ⊢
   omega
  have k5:Region.ready .any l.toArray listed=if m<l.length then [m] else []:=by
   have k6:∀ i,i∈Region.ready .any l.toArray listed↔i=m/\m<l.length:=by
    intro i
    rw[mem_ready]
    constructor
    ·rintro ⟨h0,o,ho,bF⟩
     have bR:l[i]?=some o:=by simpa using ho
     have hi:=(zaa.1 bR).1
     rw[hl i hi] at h0
     have xg:m<=i:=by simpa using h0
     have eM:=cW cJ bR (λe he hb=>bF e he hb)
     by_cases he:i=m
     ·exact ⟨he,by omega⟩
     ·have h1:=eM m (om i (by omega) hi m (by omega))
      rw[hD m (by omega)] at h1
      simp at h1
    ·rintro ⟨rfl,aG⟩
     refine ⟨by rw[hl i aG];simp,l[i],by simp[aG],λe he hb=>?_⟩
     have:=dq i l[i] (zad aG) e he hb
     rw[hD _ (by omega)]
     simpa using this
   have vd:(Region.ready .any l.toArray listed).Nodup:=(List.nodup_range).filter _
   split
   ·rename_i aG
    have h1:∀ i∈Region.ready .any l.toArray listed,i=m:=λi hi=>((k6 i).1 hi).1
    have h2:m∈Region.ready .any l.toArray listed:=(k6 m).2 ⟨rfl,aG⟩
    generalize Region.ready .any l.toArray listed=rs at *
    match rs with
    | []=>cases h2
    | [a]=>rw[h1 a (by simp)]
    | a::b::Bq =>
     have ha:=h1 a (by simp)
     have hb:=h1 b (by simp)
     simp[ha,hb] at vd
   ·rename_i aG
    exact List.eq_nil_iff_forall_not_mem.2 λi hi=>aG ((k6 i).1 hi).2
  cases fuel with
  | zero =>
   have:l.length-m=0:=by omega
   rw[this];rfl
  | succ fuel =>
   have ek:((List.range l.toArray.size).filter λi=>!listed.getD i true && ((l.toArray[i]?).map (·.after.all λe=>!Region.binds .any e || listed.getD e.on false)).getD false)=Region.ready .any l.toArray listed:=rfl
   simp only[Region.linearise.go,ek,k5]
   by_cases aG:m<l.length
   ·rw[zam aG]
    simp only[List.length_singleton,Nat.mod_one,List.getElem?_cons_zero]
    rw[linearise_go_acc,iC om dq fuel _ (m+1) _ (by omega) aG (by omega) (by simpa using hs) ?_]
    ·have:l.length-m=(l.length-(m+1))+1:=by omega
     rw[this,List.range'_succ]
     rfl
    ·intro i hi
     by_cases he:i=m
     ·subst he
      simp[zah,hs,hi]
     ·rw[getD_set_ne true (zbe he),hl i hi]
      have:(i<m)=(i<m+1):=by apply propext;omega
      simp[this]
   ·rw[zaj aG]
    have:l.length-m=0:=by omega
    rw[this];rfl
theorem k7 {l:O Oper} {p:Nat} {env:Env} {st:St} {xs:O EV} (hp:p<=l.length)
  (vH:∀ i j t,i<p->j<p->i≠j->aj l i=some t->aj l j≠some t)
  (sg:∀ (i:Nat) o,i<p->l[i]?=some o->∀ t∈dU l o,∀ j,j<p->j≠i->aj l j=some t->(j<i/\((aE l []).getD i 0).testBit j=true)∨(i<j/\((aE l []).getD j 0).testBit i=true))
  (om:∀ i,p<=i->i<l.length->∀ j,j<i->((aE l []).getD i 0).testBit j=true)
  (dq:∀ (i:Nat) o,l[i]?=some o->∀ e∈o.after,Region.binds .any e=true->e.on<i)
  (qs:eL P N l st (l.take p) xs env) (k8:ba P f N S Q l (l.drop p) k (aU env (l.take p) xs) st) :
  ∀ (nf fuel t:Nat) (listed:uD Bool) (g:aw) (w:uC) (tmps:uD uB),listed.size=l.length->fp l listed->(∀ i,p<=i->i<l.length->listed.getD i true=false) ->
   (((List.range p).filter λi=>!listed.getD i true).length=nf)->nf+(l.length-p)<=fuel->Inv g S.base w st->eG S g w st->tmps.size=N ->
   (∀ (s:Tmp),(∀ (j:Nat) x,j<p->listed.getD j false=true->aj l j=some s->xs[j]?=some x->∃ v,tmps[s]?=some v/\ai g w st x v) /\
    ((∀ j,j<p->listed.getD j false=true->aj l j≠some s)->∀ y,lookup s env=some y->∃ v,tmps[s]?=some v/\ai g w st y v)) ->
   ag P f (dS S Q) (.inRegion l.toArray (Region.linearise.go .any l.toArray fuel t listed [])::k) tmps w:=by
 have qH:=qs.length
 have Am:xs.length=p:=by rw[qH];simp;omega
 intro nf
 induction nf with
 | zero =>
  intro fuel t listed g w tmps hs cJ xR jh oq hinv hh hN hJ
  have bF:∀ i,i<p->listed.getD i true=true:=by
   intro i hi
   have h0:=zan jh
   have hn:i ∉ (List.range p).filter λi=>!listed.getD i true:=by rw[h0];simp
   rw[zbw,List.mem_range] at hn
   cases hb:listed.getD i true with
   | true=>rfl
   | false=>exact absurd ⟨hi,by simp[hb]⟩ hn
  have xS:=iC om dq fuel t p listed (zab _) hp (by omega) hs (λi hi=>by
   by_cases h:i<p
   ·rw[bF i h];simp[h]
   ·rw[xR i (by omega) hi];simp[h])
  rw[xS]
  have xT:(l.drop p).length=l.length-p:=by simp
  rw[←xT]
  have l7:∀ i,i<p->listed.getD i false=true:=λi hi=>by
   have:=bF i hi
   have aG:i<listed.size:=by omega
   simpa [zah,aG] using this
  refine k8 p (λj=>by rw[zbp]) g w tmps hinv hh (λs y hy=>?_) hN
  rcases bq qH hy with ⟨j,o,h1,h2,h3⟩|⟨h1,h2⟩
  ·have hj:j<p:=by have:=(zaa.1 h2).1;omega
   have ho:l[j]?=some o:=by rw[zai] at h1;rw[zam hj] at h1;exact h1
   exact (hJ s).1 j y hj (l7 j hj) (by simp[aj,ho,h3]) h2
  ·refine (hJ s).2 (λj hj _ hd=>?_) y h2
   cases ho:l[j]? with
   | none=>simp[aj,ho] at hd
   | some o=>exact h1 j o (by rw[zai,zam hj];exact ho) (by simpa [aj,ho] using hd)
 | succ nf ih =>
  intro fuel t listed g w tmps hs cJ xR jh oq hinv hh hN hJ
  obtain ⟨fuel,rfl⟩:∃ n,fuel=n+1:=⟨fuel-1,by omega⟩
  -- an operation of the beginning that has not come up
  have hex:∃ i,i<p/\listed.getD i true=false:=by
   have:(List.range p).filter (λi=>!listed.getD i true)≠[]:=λh=>by rw[h] at jh;simp at jh
   obtain ⟨i,hi⟩:=List.exists_mem_of_ne_nil _ this
   rw[zbw,List.mem_range] at hi
   exact ⟨i,hi.1,by simpa using hi.2⟩
  have tg:∀ i,i<l.length->listed.getD i false=listed.getD i true:=λi hi=>by
   have aG:i<listed.size:=by omega
   simp[zah,aG]
  have ek:((List.range l.toArray.size).filter λi=>!listed.getD i true && ((l.toArray[i]?).map (·.after.all λe=>!Region.binds .any e || listed.getD e.on false)).getD false)=Region.ready .any l.toArray listed:=rfl
  -- the least such is ready
  have aN:Region.ready .any l.toArray listed≠[]:=by
   have th:∀ n i,i<=n->i<p->listed.getD i true=false->∃ i,i<p/\listed.getD i true=false/\∀ j,j<i->listed.getD j true=true:=by
    intro n
    induction n with
    | zero=>intro i hi bw h;exact ⟨i,bw,h,λj hj=>by omega⟩
    | succ n xU =>
     intro i hi bw h
     by_cases ng:∃ j,j<i/\listed.getD j true=false
     ·obtain ⟨j,hj,nh⟩:=ng
      exact xU j (by omega) (by omega) nh
     ·refine ⟨i,bw,h,λj hj=>?_⟩
      cases hb:listed.getD j true with
      | true=>rfl
      | false=>exact absurd ⟨j,hj,hb⟩ ng
   obtain ⟨i0,h0,h1⟩:=hex
   obtain ⟨i,tj,qt,jd⟩:=th i0 i0 (zab _) h0 h1
   have bK:i<l.length:=by omega
   have:i∈Region.ready .any l.toArray listed:=by
    rw[mem_ready]
    refine ⟨qt,l[i],by simp[bK],λe he hb=>?_⟩
    have aG:=dq i l[i] (zad bK) e he hb
    rw[tg _ (by omega)]
    exact jd _ aG
   intro na
   rw[na] at this
   cases this
  simp only[Region.linearise.go,ek]
  have hlen:0<(Region.ready .any l.toArray listed).length:=zda.2 aN
  have k9:=Nat.mod_lt t hlen
  generalize hi:(Region.ready .any l.toArray listed)[t % (Region.ready .any l.toArray listed).length]=i
  have j5:(Region.ready .any l.toArray listed)[t % (Region.ready .any l.toArray listed).length]?=some i:=by rw[zad k9,hi]
  rw[j5]
  simp only[]
  rw[linearise_go_acc]
  have xg:i∈Region.ready .any l.toArray listed:=zaq j5
  obtain ⟨qt,o,ho,bF⟩:=mem_ready.1 xg
  have bR:l[i]?=some o:=by simpa using ho
  have bK:=(zaa.1 bR).1
  have eM:=cW cJ bR (λe he hb=>bF e he hb)
  have tj:i<p:=by
   rcases Nat.lt_or_ge i p with h|h
   ·exact h
   ·obtain ⟨i0,h0,h1⟩:=hex
    have:=eM i0 (om i h bK i0 (by omega))
    rw[tg i0 (by omega),h1] at this
    cases this
  obtain ⟨x,hx,hd,gB⟩:=qs.get (i:=i) (o:=o) (by rw[zai,zam tj];exact bR)
  have xV:=ej cJ l [] (by simp) (by simp)
  -- what the operation looks at
  have he:aH g w st (bp l o (aU env ((l.take p).take i) (xs.take i))) tmps:=by
   intro s y hy
   obtain ⟨tn,qJ⟩:=cV hy
   rcases bq (by simp[qH]) qJ with ⟨j,o',h1,h2,h3⟩|⟨h1,h2⟩
   ·have ct:j<i:=by have:=(zaa.1 h2).1;simp at this;omega
    have la:l[j]?=some o':=by
     rw[zai,zam ct,zai,zam (by omega)] at h1;exact h1
    have cm:aj l j=some s:=by simp[aj,la,h3]
    rcases sg i o tj bR s tn j (by omega) (by omega) cm with ⟨_,hb⟩|⟨aG,_⟩
    ·exact (hJ s).1 j y (by omega) (eM j hb) cm (by rw[zai,zam ct] at h2;exact h2)
    ·omega
   ·refine (hJ s).2 (λj hj l8 cm=>?_) y h2
    by_cases ct:j=i
    ·subst ct
     rw[tg j bK,qt] at l8
     cases l8
    ·rcases sg i o tj bR s tn j hj ct cm with ⟨aG,_⟩|⟨aG,hb⟩
     ·cases la:l[j]? with
      | none=>simp[aj,la] at cm
      | some o'=>exact h1 j o' (by rw[zai,zam aG,zai,zam hj];exact la) (by simpa [aj,la] using cm)
     ·have nh:j<l.length:=by omega
      have An:(aE l [])[j]?=some ((aE l []).getD j 0):=by
       cases hm:(aE l [])[j]? with
       | none=>rw[zbh,hm] at hb;simp at hb
       | some m=>rw[zbh,hm];rfl
      have:=xV j _ An l8 i hb
      rw[tg i bK,qt] at this
      cases this
  -- what remains behind it
  have ou:((List.range p).filter λj=>!(listed.setIfInBounds i true).getD j true).length=nf:=by
   have ji:∀ j,(listed.setIfInBounds i true).getD j true=(listed.getD j true || decide (j=i)):=by
    intro j
    by_cases ct:j=i
    ·subst ct;simp[zah,hs,bK]
    ·rw[getD_set_ne true (zbe ct)];simp[ct]
   have tp:((List.range p).filter λj=>!(listed.setIfInBounds i true).getD j true)=((List.range p).filter λj=>!listed.getD j true).filter λj=>!decide (j=i):=by
    rw[List.filter_filter]
    refine List.filter_congr λj _=>?_
    rw[ji j]
    cases listed.getD j true<;>simp
   rw[tp]
   have vd:((List.range p).filter λj=>!listed.getD j true).Nodup:=List.nodup_range.filter _
   have k6:i∈(List.range p).filter λj=>!listed.getD j true:=by rw[zbw,List.mem_range];exact ⟨tj,by simp[qt]⟩
   have lb:∀ (L:O Nat),L.Nodup->i∈L->(L.filter λj=>!decide (j=i)).length+1=L.length:=by
    intro L
    induction L with
    | nil=>intro _ h;cases h
    | cons a L xW =>
     intro hn hm
     rw[List.nodup_cons] at hn
     by_cases ha:a=i
     ·subst ha
      have:(L.filter λj=>!decide (j=a))=L:=by
       rw[zdb]
       intro b hb
       have:b≠a:=λe=>hn.1 (e▸hb)
       simp[this]
      rw[zca]
      simp[this]
     ·have nV:i∈L:=by
       rcases zbi.1 hm with h|h
       ·exact absurd h.symm ha
       ·exact h
      rw[zca]
      simp only[ha,decide_false,Bool.not_false,zcf,zbc]
      rw[xW hn.2 nV]
   have:=lb _ vd k6
   omega
  have xX:fp l (listed.setIfInBounds i true):=by
   intro j oj la l8 e se hb
   by_cases ct:j=i
   ·subst ct
    rw[bR] at la
    cases la
    exact getD_set_true (bF e se hb)
   ·rw[getD_set_ne false (zbe ct)] at l8
    exact getD_set_true (cJ j oj la l8 e se hb)
  have xY:∀ j,p<=j->j<l.length->(listed.setIfInBounds i true).getD j true=false:=λj hj nh=>by rw[getD_set_ne true (by omega)];exact xR j hj nh
  -- the step
  have next:∀ (aC:Nat->Nat) (w':uC) (v:uB),Good g w st x aC w' v ->
    ag P f (dS S Q) (.inRegion l.toArray (Region.linearise.go .any l.toArray fuel (t / (Region.ready .any l.toArray listed).length) (listed.setIfInBounds i true) [])::k) (Act.put ⟨tmps,[]⟩ o.dst v).tmps w':=by
   rintro aC w' v ⟨l5,hb,hl⟩
   obtain ⟨aM,bQ⟩:=hinv.grow (g':={ g with ae:=aC }) hb hl rfl rfl
   refine ih fuel _ _ _ w' _ (by simpa using hs) xX xY ou (by omega) aM (hh.step bQ) (by rw[aZ];exact hN) λs=>⟨λj y hj l8 cm hy=>?_,λgC y hy=>?_⟩
   ·by_cases ct:j=i
    ·subst ct
     have ov:o.dst=some s:=by simpa [aj,bR] using cm
     rw[hx] at hy
     cases hy
     rw[ov]
     have dh:s<tmps.size:=by
      rw[ov] at hd
      have tq:s+1<=N:=zac hd
      rw[hN]
      exact tq
     exact ⟨v,by simp[Act.put,dh],l5⟩
    ·rw[getD_set_ne false (zbe ct)] at l8
     obtain ⟨u,h1,h2⟩:=(hJ s).1 j y hj l8 cm hy
     have gD:o.dst≠some s:=λe=>vH j i s hj tj ct cm (by simp[aj,bR,e])
     refine ⟨u,?_,h2.mono bQ.bn⟩
     cases tu:o.dst with
     | none=>exact h1
     | some d =>
      have:d≠s:=λe=>gD (by rw[tu,e])
      simp[Act.put,zar,this,h1]
   ·have gD:o.dst≠some s:=λe=>gC i tj (by simp[zah,hs,bK]) (by simp[aj,bR,e])
    obtain ⟨u,h1,h2⟩:=(hJ s).2 (λj hj l8=>gC j hj (by
     by_cases ct:j=i
     ·subst ct;simp[zah,hs,bK]
     ·rw[getD_set_ne false (zbe ct)];exact l8)) y hy
    refine ⟨u,?_,h2.mono bQ.bn⟩
    cases tu:o.dst with
    | none=>exact h1
    | some d =>
     have:d≠s:=λe=>gD (by rw[tu,e])
     simp[Act.put,zar,this,h1]
  have l9:l.toArray[i]?=some o:=ho
  show ag P f (dS S Q) (.inRegion l.toArray (i::_)::k) tmps w
  rcases gB with ⟨hg,gB⟩|⟨j,want,tt,c,b,y,ay,hg,hj,xZ,x5,rfl,hE,gB⟩
  ·have hw:Region.wanted o (yielded l.toArray tmps)=true:=by simp[Region.wanted,hg]
   rcases gB g S.base w tmps hinv he with ⟨v,aC,w',hr,gE⟩|⟨f',args,hr,hc⟩
   ·exact ag.value l9 hw hr (next aC w' v gE)
   ·exact ag.call l9 hw hr (hc.mono λe w' ⟨v,aC,h1,h2⟩=>⟨v,h1,next aC w' v h2⟩)
  ·obtain ⟨u,hu,x6⟩:=he tt c xZ
   have hw:Region.wanted o (yielded l.toArray tmps)=b:=by
    rw[←dG x5 x6]
    have de:((l.toArray)[j]?).bind (·.dst)=some tt:=by simpa using hj
    simp only[Region.wanted,hg,yielded,de,zat,hu]
    cases u<;>rfl
   cases b with
   | false=>exact ag.cG l9 hw (next g.ae w undef ⟨.gd _ _ _ (λ_=>rfl) (λh=>by cases h),.refl _ _,λ_ _=>rfl⟩)
   | true =>
    have wrap:∀ aC w' v,Good g w st y aC w' v->Good g w st (.gd true y) aC w' v:=λaC w' v ⟨a,b,c⟩=>⟨.gd _ _ _ (λh=>by cases h) (λ_=>a),b,c⟩
    rcases gB rfl g S.base w tmps hinv (he.gd hE rfl) with ⟨v,aC,w',hr,gE⟩|⟨f',args,hr,hc⟩
    ·exact ag.value l9 hw hr (next aC w' v (wrap _ _ _ gE))
    ·exact ag.call l9 hw hr (hc.mono λe w' ⟨v,aC,h1,h2⟩=>⟨v,h1,next aC w' v (wrap _ _ _ h2)⟩)
def ik (P:uF) (f:Ctx) (N:Nat) (S:Start) (Q:EV->St->Prop) (l:List Oper) (p:Nat) (os:List Oper) (k:List Item) (env:Env) (st:St):Prop :=
 ∃ xs,eL P N l st os xs env/\ba P f N S Q l (l.drop p) k (aU env os xs) st
variable {l:List Oper} {p:Nat} {os:List Oper} {env:Env} {st:St}
theorem ik.g {d:J Tmp} {op:Op} {ty:uE} {pos:String} {after:uD Edge} {x:EV} (h:jP P (bp l ⟨d,op,ty,pos,after,none⟩ env) st ⟨d,op,ty,pos,after,none⟩ x) (hd:aK N d=true)
  (hk:ik P f N S Q l p os k (env.put d x) st):ik P f N S Q l p (⟨d,op,ty,pos,after,none⟩::os) k env st:=by
 obtain ⟨xs,h1,h2⟩:=hk
 exact ⟨x::xs,⟨hd,.inl ⟨rfl,h⟩,h1⟩,h2⟩
theorem ik.q {d:J Tmp} {op:Op} {ty:uE} {pos:String} {after:uD Edge} {x:EV} (h:kR P (bp l ⟨d,op,ty,pos,after,none⟩ env) st ⟨d,op,ty,pos,after,none⟩ x) (hd:aK N d=true)
  (hk:ik P f N S Q l p os k (env.put d x) st):ik P f N S Q l p (⟨d,op,ty,pos,after,none⟩::os) k env st:=.g h.g hd hk
theorem aQ.drawn {id:Nat} (p:Nat) (hm:P.follows .mixedOrders=true) (hB:fM l p=true) (h:ik P f N S Q l p (l.take p) k env st):aQ P f N S Q (.code (.region id l.toArray true)::k) env st:=by
 obtain ⟨xs,qs,k8⟩:=h
 simp only[fM,zaf] at hB
 obtain ⟨⟨⟨⟨vI,vJ⟩,x7⟩,xh⟩,xi⟩:=hB
 have hp:p<=l.length:=by simpa using xi
 intro g w tmps hinv hh he hn
 refine ag.gu λt=>?_
 have tv:Region.schedule (P.follows .mixedOrders) l.toArray t=Region.linearise .any l.toArray t:=by simp[Region.schedule,hm]
 rw[tv]
 have hb:Below w.heap.size w { w with drawn:=w.drawn+1 }:=(Below.refl _ w).drew
 obtain ⟨aM,bQ⟩:=hinv.grow (g':=g) hb (λ_ _=>rfl) rfl rfl
 unfold Region.linearise
 refine k7 (p:=p) (xs:=xs) hp ?_ ?_ ?_ ?_ qs k8 p _ t _ g _ tmps (by simp) ?_ ?_ ?_ ?_ aM (hh.step bQ) hn λs=>⟨λj x hj l8=>?_,λ_ y hy=>?_⟩
 ·intro i j t hi hj vK vL cm
  have:=aq (aq vJ hi) hj
  simp[vK,vL,cm] at this
 ·intro i o hi ho t ht j hj ct cm
  have h1:=aq vI hi
  rw[ho] at h1
  simp only[zas] at h1
  have h2:=aq (h1 t ht) hj
  simp only[cm,bne_self_eq_false,Bool.or_false,zbs,zaf,zbm,beq_iff_eq] at h2
  rcases h2 with (h2|h2)|h2
  ·exact absurd h2.symm ct
  ·exact .inl h2
  ·exact .inr h2
 ·intro i hi bK j hj
  have h1:=aq x7 bK
  simp only[zbs,zbm] at h1
  rcases h1 with h1|h1
  ·omega
  ·exact aq h1 hj
 ·intro i o ho e se bY
  have bK:=(zaa.1 ho).1
  have h1:=aq xh bK
  rw[ho] at h1
  simp only[zas] at h1
  have:=h1 e (by simpa using se)
  simpa [bY] using this
 ·intro i o ho sf
  simp[zah,Array.getElem?_replicate] at sf
  split at sf<;>simp_all
 ·intro i hi bK
  simp[zah,Array.getElem?_replicate,bK]
 ·have:((List.range p).filter λi=>!(Array.replicate l.toArray.size false).getD i true)=List.range p:=by
   rw[zdb]
   intro i hi
   have fZ:=List.mem_range.1 hi
   have:i<l.length:=by omega
   simp[zah,Array.getElem?_replicate,this]
  rw[this];simp
 ·simp;omega
 ·simp[zah,Array.getElem?_replicate] at l8
  split at l8<;>simp_all
 ·exact (he.mono bQ.bn) s y hy
end drawn
theorem vM {n:Int} (h1:-9223372036854775808<=n) (h2:n<=9223372036854775807):IntKind.i64.wrap n=n:=by
 rw[IntKind.wrap_i64];omega
def cn (n m:Nat):EV->Bool
 | .d _=>true
 | .ref o _=>Nat.blt o n
 | .kN o _ _ _=>Nat.blt o n
 | .cF _ _ t=>Nat.blt t m
 | .mp o=>Nat.blt o n
 | .vc t _=>Nat.blt t m
 | .vp t _ _ _=>Nat.blt t m
 | .vw t _ _ _=>Nat.blt t m
 | .kO _ cs=>gF n m cs
 | .agg cs=>gF n m cs
 | .fX cs=>gF n m cs
 | .gd _ x=>cn n m x
where
 gF (n m:Nat):List EV->Bool
 | []=>true
 | x::l=>cn n m x && gF n m l
theorem bl {a b:Nat} (h:Nat.blt a b=true):a<b:=zac h
theorem bI {n m:Nat}:∀ {l:O EV},cn.gF n m l=true->∀ (i:Nat) c,l[i]?=some c->cn n m c=true
 | [],_,i,c,h=>by simp at h
 | x::l,ho,0,c,h=>by
  simp only[cn.gF,zaf] at ho
  simp at h;subst h;exact ho.1
 | x::l,ho,i+1,c,h=>by
  simp only[cn.gF,zaf] at ho
  exact bI ho.2 i c (by simpa using h)
theorem gG {g:aw} {w:uC} {st:St} {n m:Nat} {x:EV} {v:uB} (hn:n<=st.ak.length) (hm:m<=st.aa.length) (ho:cn n m x=true) (h:ai g w st x v):ai g w ⟨st.ak.take n,st.aa.take m⟩ x v:=by
 have eK:∀ {t:Nat} {x:bU},(st.aa.take m)[t]?=some x->st.aa[t]?=some x:=fun {t x} hx=>by
  rw[zai] at hx;split at hx;exact hx;cases hx
 induction h with
 | d x v h=>exact .d _ _ h
 | ref o off h=>exact .ref _ _ (by have:=bl ho;simp;omega)
 | kN o off l c h=>exact .kN _ _ _ _ (by have:=bl ho;simp;omega)
 | cF sz rows t v e k hd ht hk hv =>
  have:=bl ho
  exact .cF sz rows t v e k hd (by simp[zai,this,ht]) hk hv
 | mp o h=>exact .mp _ (by have:=bl ho;simp;omega)
 | kO f cs vs hs h ih =>
  simp only[cn] at ho
  exact .kO f cs vs hs λi c u hc hu=>ih i c u hc hu (bI ho i c hc)
 | agg cs vs hs h1 h ih =>
  simp only[cn] at ho
  exact .agg cs vs hs h1 λi c u hc hu=>ih i c u hc hu (bI ho i c hc)
 | fX cs vs hs h ih =>
  simp only[cn] at ho
  exact .fX cs vs hs λi c u hc hu=>ih i c u hc hu (bI ho i c hc)
 | gd b x v h0 h ih =>
  simp only[cn] at ho
  exact .gd b x v h0 λhb=>ih hb ho
 | vc t k v ht hf h=>exact .vc t k v (by have:=bl ho;simp;omega) hf λx rows hx=>h x rows (eK hx)
 | vp t k i off v ht hf h=>exact .vp t k i off v (by have:=bl ho;simp;omega) hf λx rows hx=>h x rows (eK hx)
 | vw t k lo n v ht hf h=>exact .vw t k lo n v (by have:=bl ho;simp;omega) hf λx rows hx=>h x rows (eK hx)
def dr (n m:Nat):fj->Bool
 | .row _ cs=>cs.all (cn n m)
 | .map es=>es.all λp=>cn n m p.2
 | .raw _=>true
 | .gone=>true
def j6 (n m:Nat):Env->Bool
 | []=>true
 | (_,x)::e=>cn n m x && j6 n m e
theorem iD {n m i:Nat} {y:EV}:∀ {env:Env},j6 n m env=true->lookup i env=some y->cn n m y=true
 | [],_,h=>by simp[lookup] at h
 | (j,x)::e,ho,h=>by
  simp only[j6,zaf] at ho
  unfold lookup at h
  cases hb:Nat.beq i j with
  | true=>rw[hb] at h;cases h;exact ho.1
  | false=>rw[hb] at h;exact iD ho.2 h
section drop
variable {P:uF} {f:Ctx} {N:Nat} {S:Start} {Q:EV->St->Prop} {k:List Item} {todo:List Item} {env ay:Env} {st aI:St}
theorem Inv.drop {g:aw} {base n m:Nat} {w:uC} (h:Inv g base w st) (hn:n<=st.ak.length) (hm:m<=st.aa.length) (ho:(st.ak.take n).all (dr n m)=true):Inv g base w ⟨st.ak.take n,st.aa.take m⟩:=by
 have l6:∀ o x,(st.ak.take n)[o]?=some x->st.ak[o]?=some x:=λo x hx=>by
  rw[zai] at hx;split at hx;exact hx;cases hx
 have bS:∀ t x,(st.aa.take m)[t]?=some x->st.aa[t]?=some x:=λt x hx=>by
  rw[zai] at hx;split at hx;exact hx;cases hx
 have iE:∀ o x,(st.ak.take n)[o]?=some x->dr n m x=true:=λo x hx=>zas.1 ho x (zaq hx)
 have ow:∀ o,St.live ⟨st.ak.take n,st.aa.take m⟩ o->st.live o:=λo ⟨x,hx,aN⟩=>⟨x,l6 o x hx,aN⟩
 refine ⟨h.base,λo ty cs hx=>?_,λo es hx=>?_,λo x hx=>h.raw o x (l6 o _ hx),λo o' aN h1 h2=>h.ne o o' aN (ow _ h1) (ow _ h2),λt e sz k hx=>h.tail t e sz k (bS t _ hx),λt t' x x' b aN h1 h2=>h.ed t t' x x' b aN (bS t _ h1) (bS t' _ h2),λt x o h1 h2=>h.cN t x o (bS t _ h1) (ow _ h2),h.eE,λt e sz k rows hx=>h.own t e sz k rows (bS t _ hx)⟩
 ·obtain ⟨h1,h2,vs,h3,h4,h5⟩:=h.row o ty cs (l6 o _ hx)
  have hc:=iE o _ hx
  simp only[dr,zas] at hc
  exact ⟨h1,h2,vs,h3,h4,λi c u fO hu=>⟨gG hn hm (hc c (zaq fO)) (h5 i c u fO hu).1,(h5 i c u fO hu).2⟩⟩
 ·obtain ⟨h1,ms,c,h3,h4,h5,h6⟩:=h.map o es (l6 o _ hx)
  have hc:=iE o _ hx
  simp only[dr,zas] at hc
  exact ⟨h1,ms,c,h3,h4,λi k x me a b=>⟨(h5 i k x me a b).1,gG hn hm (hc _ (zaq a)) (h5 i k x me a b).2⟩,h6⟩
theorem eG.drop {S:Start} {g:aw} {w:uC} {n m:Nat} (hh:eG S g w st) (Ao:S.st.ak.length<=n) (Ap:S.st.aa.length<=m) (hn:n<=st.ak.length) (hm:m<=st.aa.length):eG S g w ⟨st.ak.take n,st.aa.take m⟩:=by
 refine ⟨⟨hh.bn.bX,hh.bn.ob,by simp;omega,λt e sz k hk=>?_,by simp;omega,λt x' ab aG hx ho=>?_⟩,hh.below,hh.ae,hh.frame,λb hb hw=>hh.fresh b hb ?_⟩
 ·obtain ⟨k',h1,h2⟩:=hh.bn.aa t e sz k hk
  have aG:=(zaa.1 hk).1
  exact ⟨k',by simp[zai,show t<m by omega,h1],h2⟩
 ·refine hh.bn.own t x' ab aG ?_ ho
  rw[zai] at hx;split at hx;exact hx;cases hx
 ·rcases hw with ⟨o,⟨x,hx,aN⟩,h2⟩|⟨t,x,hx,h2⟩
  ·refine .inl ⟨o,⟨x,?_,aN⟩,h2⟩
   rw[zai] at hx;split at hx;exact hx;cases hx
  ·refine .inr ⟨t,x,?_,h2⟩
   rw[zai] at hx;split at hx;exact hx;cases hx
theorem aQ.to (n m:Nat) (hE:b6 env ay) (ho:st.ak.take n=aI.ak) (ht:st.aa.take m=aI.aa) (hn:Nat.ble n st.ak.length=true) (hm:Nat.ble m st.aa.length=true) (iE:(j6 n m ay && aI.ak.all (dr n m))=true)
  (Ao:S.st.ak.length<=n) (Ap:S.st.aa.length<=m) (h:aQ P f N S Q todo ay aI):aQ P f N S Q todo env st:=by
 have x8:=zac hn
 have nV:=zac hm
 simp only[zaf] at iE
 have bQ:aI=⟨st.ak.take n,st.aa.take m⟩:=by cases aI;simp at ho ht;rw[ho,ht]
 subst bQ
 intro g w tmps hinv hh he hN
 refine h g w tmps (hinv.drop x8 nV iE.2) (hh.drop (by omega) (by omega) x8 nV) ?_ hN
 ·intro i y hy
  obtain ⟨v,h1,h2⟩:=(he.sub hE) i y hy
  exact ⟨v,h1,gG x8 nV (iD iE.1 hy) h2⟩
theorem b6.cons {i:Nat} {x y:EV} {t:Env} (h:lookup i env=some x) (hle:bV x y) (ht:b6 env t):b6 env ((i,y)::t):=⟨⟨x,h,hle⟩,ht⟩
end drop
section q
variable {P:uF} {base:Nat} {env:Env} {st:St} {d:Option Tmp} {ty:uE} {pos:String} {after:uD Edge} {gd:Option (Nat×Bool)} {t t2 e:uE} {x y z:uG}
theorem tw {sz:Nat} {rows:O (O D)} {ev:EV} (ht:P.underlying t=some (.slice e)) (hx:bX env x=some ev) (hs:jV ev=some (sz,rows)) :
  kR P env st ⟨d,.call ⟨.builtin .len,#[x],#[t]⟩,ty,pos,after,gd⟩ (.d (.ex (.int .i64 rows.length))):=xJ λg w tmps w' he=>by
 obtain ⟨A,c,hv⟩:=qD (jW hs (iT he hx))
 exact qC ht hv w'
end q
abbrev cI (n:Int):D:=.ex (.int .i64 n)
abbrev cS (l:List uA):D:=.ex (.string ⟨l.toArray⟩)
abbrev cB (b:Bool):D:=.ex (.bool b)
def rS (l:List uA):List D:=[.ex (.string ⟨l.toArray⟩)]
abbrev ya {α:Type} (sz:Nat) (row:α->List D) (l:List α):D:=.sl sz (l.map row)
section alist
variable {κ α:Type} [BEq κ] [LawfulBEq κ]
def vN (l:List (κ×α)) (k:κ):Option Nat:=l.findIdx? λp=>k==p.1
end alist
inductive FK where
 | i (k:IntKind)
 | b
 | s
def il:Option TypeDesc->Option FK
 | some (.int k)=>some (.i k)
 | some .bool=>some .b
 | some .string=>some .s
 | _=>none
def bm:FK->uB->Bool
 | .i k,.int k' _=>decide (k=k')
 | .b,.bool _=>true
 | .s,.string _=>true
 | _,_=>false
def qK:uB->uB->Bool
 | .int _ a,.int _ b=>a==b
 | .bool a,.bool b=>a==b
 | .string a,.string b=>a.toList==b.toList
 | _,_=>false
def b8:List uB->List uB->Bool
 | [],[]=>true
 | x::xs,y::ys=>qK x y && b8 xs ys
 | _,_=>false
def fitAll:List FK->List uB->Bool
 | [],[]=>true
 | k::ks,v::vs=>bm k v && fitAll ks vs
 | _,_=>false
def bN (P:uF):Nat->List Field->Option (List FK)
 | _,[]=>some []
 | n,f::fs=>match Nat.beq f.offset n,decide (f.name ≠ "_"),il (P.underlying f.type),bN P (n+1) fs with
  | true,true,some k,some ks=>some (k::ks)
  | _,_,_,_=>none
def bu (P:uF) (t:uE):Option (List FK):=match P.underlying t with
 | some (.struct fs)=>if P.stoodInHeld t || P.eqGuardType P.depth t then none else bN P 0 fs.toList
 | _=>none
section eq
variable {P:uF}
theorem cK {t:uE} {k:FK} (h:il (P.underlying t)=some k) {cs:uD uB} {off:Nat} {v:uB} (hv:cs[off]?=some v) (w:uC):(part t cs off).run P w=.ok v w:=by
 have h1:(P.underlying t).map mW=some true:=by
  cases hd:P.underlying t with
  | none=>rw[hd] at h;cases h
  | some mV=>rw[hd] at h;cases mV<;>first|rfl|cases h
 simp[part,n9 h1,hv]
theorem dt {t:uE} {k:FK} (h:il (P.underlying t)=some k) {x y:uB} (hx:bm k x=true) (hy:bm k y=true) (n:Nat) (w:uC):(Op.equalIn (n+1) t x y).run P w=.ok (qK x y) w:=by
 cases hd:P.underlying t with
 | none=>rw[hd] at h;cases h
 | some mV =>
  rw[hd] at h
  cases mV<;>simp only[il,Option.some.injEq,reduceCtorEq] at h
  ·subst h
   cases x<;>simp only[bm,zal] at hx
   cases y<;>simp only[bm,zal] at hy
   exact run_equalIn_bool' w n t _ _ hd
  ·subst h
   cases x<;>simp only[bm,zal] at hx
   cases y<;>simp only[bm,zal] at hy
   have e1:=zaw hx
   have e2:=zaw hy
   rw[←e1,←e2]
   exact run_equalIn_int w n t _ _ _ _ hd
  ·subst h
   cases x<;>simp only[bm,zal] at hx
   cases y<;>simp only[bm,zal] at hy
   exact run_equalIn_string w n t _ _ hd
theorem dV (n:Nat) (w:uC):∀ (fs:List Field) (k:Nat) (ks:List FK) (xs ys:List uB) (X Y:uD uB),bN P k fs=some ks->fitAll ks xs=true->fitAll ks ys=true ->
  (∀ (j:Nat) v,xs[j]?=some v->X[k+j]?=some v)->(∀ (j:Nat) v,ys[j]?=some v->Y[k+j]?=some v)->(Op.eqFields (n+1) X Y fs).run P w=.ok (b8 xs ys) w
 | [],k,ks,xs,ys,X,Y,h,hx,hy,_,_=>by
  simp only[bN,Option.some.injEq] at h
  subst h
  match xs,ys with
  | [],[]=>rfl
  | _::_,_=>cases hx
  | [],_::_=>cases hy
 | f::fs,k,ks,xs,ys,X,Y,h,hx,hy,hX,hY=>by
  unfold bN at h
  split at h
  ·rename_i kk vO h1 h2 h3 h4
   simp only[Option.some.injEq] at h
   subst h
   match xs,ys with
   | [],_=>cases hx
   | _::_,[]=>cases hy
   | x::xs,y::ys =>
    simp only[fitAll,zaf] at hx hy
    have ho:=zae h1
    have j7:f.name ≠ "_" := zaw h2
    have px:=cK h3 (cs:=X) (off:=f.offset) (hX 0 x rfl |> λh=>by rw[ho];simpa using h) w
    have py:=cK h3 (cs:=Y) (off:=f.offset) (hY 0 y rfl |> λh=>by rw[ho];simpa using h) w
    have pe:=dt h3 hx.1 hy.1 n w
    have ih:=dV n w fs (k+1) vO xs ys X Y h4 hx.2 hy.2 (λj v hv=>by have:=hX (j+1) v (by simpa using hv);rwa [show k+1+j=k+(j+1) by omega]) (λj v hv=>by have:=hY (j+1) v (by simpa using hv);rwa [show k+1+j=k+(j+1) by omega])
    simp only[Op.eqFields,zam j7,Sem.run_bind,px,py,pe,Result.andThen_ok,Sem.run_ite,b8]
    cases qK x y
    ·rfl
    ·simpa using ih
  ·cases h
theorem qL {t:uE} {ks:O FK} (h:bu P t=some ks) {xs ys:O uB} (hx:fitAll ks xs=true) (hy:fitAll ks ys=true) (w:uC) (op:BinOp) (x y:uG) :
  (eqGuard op t x y (.agg xs.toArray) (.agg ys.toArray)).run P w=.ok () w/\(Op.equalIn 10000 t (.agg xs.toArray) (.agg ys.toArray)).run P w=.ok (b8 xs ys) w:=by
 unfold bu at h
 split at h
 ·rename_i fs hu
  split at h
  ·cases h
  ·rename_i gC
   simp only[zbs,not_or,Bool.not_eq_true] at gC
   have vP:P.fieldsOf t=fs:=by simp[Program.fieldsOf,hu]
   refine ⟨run_eqGuard_agg w op t x y _ _ gC.2,?_⟩
   rw[run_equalIn_struct w 9999 t _ _ (by rw[vP];exact hu) gC.1,vP]
   exact dV 9998 w fs.toList 0 ks xs ys _ _ h hx hy (λj v hv=>by simpa using hv) (λj v hv=>by simpa using hv)
 ·cases h
end eq
theorem cX {ae:Nat->Nat} {w:uC} {u v:uB} (h:aJ ae w (.ex u) v):v=u:=by cases h;rfl
section rules
variable {P:uF} {f:Ctx} {N:Nat} {S:Start} {Q:EV->St->Prop} {k:List Item} {base:Nat} {env:Env} {st:St} {ops rest:List Oper} {d:Option Tmp} {ty:uE} {pos:String} {after:uD Edge} {gd:Option (Nat×Bool)} {t t2 e:uE} {x y z:uG}
theorem foldl_push:∀ (l:O uA) (b:ByteArray),(l.map λb=>(b.toNat:Int)).foldl (λr n=>r.push (UInt8.ofNat n.toNat)) b=⟨b.data++l.toArray⟩
 | [],b=>by simp
 | c::l,b=>by
  rw[zcj,List.foldl_cons,foldl_push l]
  have:UInt8.ofNat (c.toNat:Int).toNat=c:=by simp
  rw[this]
  congr 1
  apply zct
  simp[ByteArray.push]
theorem eN {w:uC} {A:J Addr} {c:Nat} {l:O uA} (h:A=none->l=[]) (hc:∀ a,A=some a->(loadCells a l.length).run P w=.ok (l.map λb=>Value.int .u8 (b.toNat:Int)).toArray w) :
  (Conv.bytesToString (.slice A l.length c)).run P w=.ok (.string ⟨l.toArray⟩) w:=by
 cases A with
 | none =>
  have:=h rfl
  subst this
  rfl
 | some a =>
  have h1:=run_bytesToString (P:=P) w a l.length c (l.map λb=>(b.toNat:Int)) (by rw[hc a rfl];simp[Function.comp_def])
  rw[h1,foldl_push]
  congr 2
  simp[ByteArray.empty,ByteArray.emptyWithCapacity]
  rfl
end rules
section rules
variable {P:uF} {f:Ctx} {N:Nat} {S:Start} {Q:EV->St->Prop} {k:List Item} {base:Nat} {env:Env} {st:St} {ops rest:List Oper} {d:Option Tmp} {ty:uE} {pos:String} {after:uD Edge} {gd:Option (Nat×Bool)} {t t2 e:uE} {x y z:uG}
def ox (x y:D):Prop:=∀ ae w v,aJ ae w x v->aJ ae w y v
def jj:List D->List D->Prop
 | [],[]=>True
 | x::xs,y::ys=>ox x y/\jj xs ys
 | _,_=>False
theorem jj.get:∀ {xs ys:O D},jj xs ys->xs.length=ys.length/\∀ (i:Nat) y,ys[i]?=some y->∃ x,xs[i]?=some x/\ox x y
 | [],[],_=>⟨rfl,λi y h=>by simp at h⟩
 | x::xs,y::ys,h=>by
  obtain ⟨h1,h2⟩:=jj.get h.2
  refine ⟨by simp[h1],λi z hz=>?_⟩
  cases i with
  | zero=>simp at hz;subst hz;exact ⟨x,rfl,h.1⟩
  | succ i=>simpa using h2 i z (by simpa using hz)
 | [],_::_,h=>h.elim
 | _::_,[],h=>h.elim
def j8:List (List D)->List (List D)->Prop
 | [],[]=>True
 | x::xs,y::ys=>jj x y/\j8 xs ys
 | _,_=>False
theorem j8.get:∀ {xs ys:O (O D)},j8 xs ys->xs.length=ys.length/\∀ (i:Nat) y,ys[i]?=some y->∃ x,xs[i]?=some x/\jj x y
 | [],[],_=>⟨rfl,λi y h=>by simp at h⟩
 | x::xs,y::ys,h=>by
  obtain ⟨h1,h2⟩:=j8.get h.2
  refine ⟨by simp[h1],λi z hz=>?_⟩
  cases i with
  | zero=>simp at hz;subst hz;exact ⟨x,rfl,h.1⟩
  | succ i=>simpa using h2 i z (by simpa using hz)
 | [],_::_,h=>h.elim
 | _::_,[],h=>h.elim
theorem ox.sl {sz:Nat} {xs ys:O (O D)} (h:j8 xs ys):ox (.sl sz xs) (.sl sz ys):=by
 intro ae w v hv
 obtain ⟨h1,h2⟩:=h.get
 cases hv with
 | nil =>
  have:ys=[]:=zan (by rw[←h1];rfl)
  subst this
  exact .nil sz _
 | sl _ _ b off cap hc hr hx hh =>
  rw[h1]
  refine .sl sz ys b off cap (by rw[←h1];exact hc) (λrow bE=>?_) (λk hk=>hx k (by rw[h1];exact hk)) λi j row c u hi hj hu=>?_
  ·obtain ⟨i,hi⟩:=List.mem_iff_getElem?.1 bE
   obtain ⟨x,jQ,hle⟩:=h2 i row hi
   rw[←hle.get.1]
   exact hr x (zaq jQ)
  ·obtain ⟨x,jQ,hle⟩:=h2 i row hi
   obtain ⟨d,hd,hl⟩:=hle.get.2 j c hj
   exact hl ae w u (hh i j x d u jQ hd hu)
theorem bj.le {f:FuncId} {xs ys:O D} {q:D->Prop} (h:bj P f ys q) (hle:jj xs ys):bj P f xs q:=by
 intro ae w vs hg ha
 obtain ⟨h1,h2⟩:=hle.get
 refine h ae w vs hg ⟨by rw[ha.1,h1],λi y v hy hv=>?_⟩
 obtain ⟨x,hx,hl⟩:=h2 i y hy
 exact hl ae w v (ha.2 i x v hx hv)
end rules
def ck {α:Type} (p:Prop) [Decidable p] (k:Option α):Option α:=if p then k else none
theorem jm {α:Type} {p:Prop} [Decidable p] {k:J α} {r:α} (h:ck p k=some r):p/\k=some r:=by
 unfold ck at h
 split at h
 ·exact ⟨by assumption,h⟩
 ·cases h
abbrev Aq (b:uA):D:=.ex (.int .u8 (b.toNat:Int))
theorem bV.d {x y:D} (h:ox x y):bV (.d x) (.d y):=λg w st v hv=>by cases hv with|d _ _ hd=>exact .d _ _ (h _ _ _ hd)
theorem ox.e0 (sz:Nat):ox (.e0 sz) (.sl sz []):=λ_ _ _ h=>D.n8 h
theorem ox.fX {xs ys:O D} (h:jj xs ys):ox (.fX xs) (.fX ys):=by
 intro ae w v hv
 obtain ⟨h1,h2⟩:=h.get
 cases hv with
 | fX _ vs hs hc =>
  refine .fX _ vs (by rw[hs,h1]) λi c u hi hu=>?_
  obtain ⟨x,hx,hle⟩:=h2 i c hi
  exact hle ae w u (hc i x u hx hu)
theorem ox.ro {xs ys:O D} (h:jj xs ys):ox (.ro xs) (.ro ys):=by
 intro ae w v hv
 obtain ⟨h1,h2⟩:=h.get
 cases hv with
 | ro _ b off hx hc =>
  refine .ro ys b off (λk hk=>hx k (by rw[h1];exact hk)) λj c u hj hu=>?_
  obtain ⟨x,jQ,hle⟩:=h2 j c hj
  exact hle ae w u (hc j x u jQ hu)
theorem kR.le {P:uF} {env:Env} {st:St} {o:Oper} {x y:EV} (h:kR P env st o x) (hle:bV x y):kR P env st o y:=λg b w t hi he =>
 let ⟨v,h1,h2⟩:=h g b w t hi he
 ⟨v,hle _ _ _ _ h1,h2⟩
theorem jP.le {P:uF} {env:Env} {st:St} {o:Oper} {x y:EV} (h:jP P env st o x) (hle:bV x y):jP P env st o y:=λg b w t hi he=>by
 rcases h g b w t hi he with ⟨v,l,w',h1,h2,h3,h4⟩|⟨f,a,h1,h2⟩
 ·exact .inl ⟨v,l,w',h1,hle _ _ _ _ h2,h3,h4⟩
 ·exact .inr ⟨f,a,h1,h2.mono λe w' ⟨v,l,k0,k1,k2,k3⟩=>⟨v,l,k0,hle _ _ _ _ k1,k2,k3⟩⟩
section q
variable {P:uF} {base:Nat} {env:Env} {st:St} {d:Option Tmp} {ty:uE} {pos:String} {after:uD Edge} {gd:Option (Nat×Bool)} {t t2 e:uE} {x y z:uG}
section sl
variable {α:Type} {sz:Nat} {row:α->List D} {l:List α} {ev:EV} {inf:TypeInfo}
theorem tx (ht:P.underlying t=some (.slice e)) (hx:bX env x=some ev) (hs:jV ev=some (sz,l.map row)) :
  kR P env st ⟨d,.call ⟨.builtin .len,#[x],#[t]⟩,ty,pos,after,gd⟩ (.d (cI (l.length:Int))):=by
 have:=tw (st:=st) (d:=d) (ty:=ty) (pos:=pos) (after:=after) (gd:=gd) ht hx hs
 rwa [zbx] at this
theorem tz {n b:Nat} (h:n<=1000000000) (hb:b<=100000):n*b<=140737488355328:=zau (Nat.mul_le_mul h hb) (by decide)
theorem ni {l':O α} {tk:Nat} {z:uB} {w:EV} (ht:P.underlying t=some (.slice e)) (hi:P.info? e=some inf) (hz:inf.zero=some z) (a6:inf.size=sz) (eh:z.cells.size=sz) (hb:inf.bytes<=100000)
  (hx:bX env x=some (.cF sz (l.map row) tk)) (bS:st.aa[tk]?=some ⟨e,sz,l.length,none⟩) (hy:bX env y=some w) (hs:jV w=some (sz,l'.map row)) (hn:l.length+l'.length<=1000000000) :
  ib P base env st ⟨d,.call ⟨.builtin .append,#[x,y],#[t,t]⟩,ty,pos,after,gd⟩ (.cF sz ((l++l').map row) tk) (st.ah tk ⟨e,sz,(l++l').length,none⟩):=by
 have:=oi (base:=base) (d:=d) (ty:=ty) (pos:=pos) (after:=after) (gd:=gd) ht hi hz a6 eh hx (by simpa using bS) hy hs (by simpa using tz hn hb) (by simp;omega)
 simpa using this
end sl
end q
section ret
variable {P:uF} {f:Ctx} {N:Nat} {S:Start} {Q:EV->St->Prop} {k:List Item} {env:Env} {st:St}
def iF (tmps:uD uB):ResultVar->Sem uB
 | .tmp t=>pure (tmps.getD t undef)
 | .cell a t=>do loadVar t (←asAddr (tmps.getD a undef))
end ret
def cC (rs:List Nat) (N i:Nat):Nat:=match rs[i]? with
 | some r=>r
 | none=>N+(i-rs.length)
structure si (rs:List Nat) (N:Nat):Prop where
 lt:∀ r,r∈rs->r<N
 inj:∀ (i j:Nat) (r:Nat),rs[i]?=some r->rs[j]?=some r->i=j
theorem ft {rs:O Nat} {N i:Nat} (h:si rs N) (hi:i<rs.length):cC rs N i<N/\rs[i]?=some (cC rs N i):=by
 have e:rs[i]?=some rs[i]:=zad hi
 unfold cC
 rw[e]
 exact ⟨h.lt _ (List.getElem_mem hi),rfl⟩
theorem jn {rs:O Nat} {N i:Nat} (hi:rs.length<=i):cC rs N i=N+(i-rs.length):=by
 unfold cC
 rw[zbn hi]
theorem ma {rs:O Nat} {N i j:Nat} (h:si rs N) (e:cC rs N i=cC rs N j):i=j:=by
 by_cases hi:i<rs.length<;>by_cases hj:j<rs.length
 ·obtain ⟨_,h1⟩:=ft h hi
  obtain ⟨_,h2⟩:=ft h hj
  rw[e] at h1
  exact h.inj i j _ h1 h2
 ·obtain ⟨h1,_⟩:=ft h hi
  rw[jn (i:=j) (by omega)] at e
  omega
 ·obtain ⟨h1,_⟩:=ft h hj
  rw[jn (i:=i) (by omega)] at e
  omega
 ·rw[jn (i:=i) (by omega),jn (i:=j) (by omega)] at e
  omega
def nj (rs:List Nat) (N:Nat):Bool:=rs.all (λr=>Nat.blt r N) && nodupB rs
where nodupB:List Nat->Bool
 | []=>true
 | r::rs=>rs.all (λx=>!Nat.beq x r) && nodupB rs
theorem si.of {rs:O Nat} {N:Nat} (h:nj rs N=true):si rs N:=by
 simp only[nj,zaf,zas] at h
 refine ⟨λr hr=>bl (h.1 r hr),?_⟩
 have key:∀ (l:O Nat),nj.nodupB l=true->∀ (i j:Nat) (r:Nat),l[i]?=some r->l[j]?=some r->i=j:=by
  intro l
  induction l with
  | nil=>intro _ i j r hi;simp at hi
  | cons x l ih =>
   intro hn i j r hi hj
   simp only[nj.nodupB,zaf,zas] at hn
   cases i with
   | zero =>
    cases j with
    | zero=>rfl
    | succ j =>
     simp at hi hj
     subst hi
     have:=hn.1 x (zaq hj)
     simp at this
   | succ i =>
    cases j with
    | zero =>
     simp at hi hj
     subst hj
     have:=hn.1 x (zaq hi)
     simp at this
    | succ j =>
     have:=ih hn.2 i j r (by simpa using hi) (by simpa using hj)
     omega
 exact key rs h.2
section ren
def EV.ren (ρ τ:Nat->Nat):EV->EV
 | .d x=>.d x
 | .ref o off=>.ref (ρ o) off
 | .kN o off n c=>.kN (ρ o) off n c
 | .cF sz rows t=>.cF sz rows (τ t)
 | .mp o=>.mp (ρ o)
 | .vc t k=>.vc (τ t) k
 | .vp t k i off=>.vp (τ t) k i off
 | .vw t k lo n=>.vw (τ t) k lo n
 | .kO f cs=>.kO f (ld ρ τ cs)
 | .agg cs=>.agg (ld ρ τ cs)
 | .fX cs=>.fX (ld ρ τ cs)
 | .gd b x=>.gd b (EV.ren ρ τ x)
where
 ld (ρ τ:Nat->Nat):List EV->List EV
 | []=>[]
 | x::l=>EV.ren ρ τ x::ld ρ τ l
theorem bO (ρ τ:Nat->Nat):∀ l:O EV,EV.ren.ld ρ τ l=l.map (EV.ren ρ τ)
 | []=>rfl
 | x::l=>by simp[EV.ren.ld,bO ρ τ l]
def fj.ren (ρ τ:Nat->Nat):fj->fj
 | .row ty cs=>.row ty (EV.ren.ld ρ τ cs)
 | .map es=>.map (es.map λp=>(p.1,p.2.ren ρ τ))
 | .raw x=>.raw x
 | .gone=>.gone
theorem fj.oy {ρ τ:Nat->Nat} {x:fj} (h:x.ren ρ τ=.gone):x=.gone:=by cases x<;>first|rfl|cases h
def aw.sub (g:aw) (ρ τ:Nat->Nat):aw:=⟨g.ae,λo=>g.ob (ρ o),λt=>g.tk (τ t)⟩
variable {ρ τ:Nat->Nat} {g g':aw} {w:uC} {s0 st:St}
theorem ai.down (ht:∀ t x,s0.aa[t]?=some x->st.aa[τ t]?=some x):∀ {x:EV} {v:uB},cn s0.ak.length s0.aa.length x=true->ai g w st (x.ren ρ τ) v->ai (g.sub ρ τ) w s0 x v:=by
 have aP:∀ {t:Nat},t<s0.aa.length->∀ {x:bU},st.aa[τ t]?=some x->s0.aa[t]?=some x:=fun {t} aG {x} hx=>by
  have h1:=ht t _ (zad aG)
  rw[hx] at h1
  cases h1
  exact zad aG
 have main:∀ {y:EV} {v:uB},ai g w st y v->∀ x:EV,cn s0.ak.length s0.aa.length x=true->y=x.ren ρ τ->ai (g.sub ρ τ) w s0 x v:=by
  intro y v h
  induction h with
  | d a v h =>
   intro x hx e
   cases x<;>simp only[EV.ren] at e<;>cases e
   exact .d _ _ h
  | ref o off h =>
   intro x hx e
   cases x<;>simp only[EV.ren] at e<;>cases e
   exact .ref (g:=g.sub ρ τ) _ _ (bl hx)
  | kN o off n c h =>
   intro x hx e
   cases x<;>simp only[EV.ren] at e<;>cases e
   exact .kN (g:=g.sub ρ τ) _ _ _ _ (bl hx)
  | cF sz rows t v el n hd eK hn hv =>
   intro x hx e
   cases x<;>simp only[EV.ren] at e<;>cases e
   exact .cF sz rows _ v el n hd (aP (bl hx) eK) hn hv
  | mp o h =>
   intro x hx e
   cases x<;>simp only[EV.ren] at e<;>cases e
   exact .mp (g:=g.sub ρ τ) _ (bl hx)
  | kO f cs vs hs h ih =>
   intro x hx e
   cases x<;>simp only[EV.ren] at e<;>cases e
   rename_i ds
   simp only[cn] at hx
   rw[bO] at hs ih
   refine .kO f _ vs (by simpa using hs) λi c u hc hu=>ih i (c.ren ρ τ) u (by rw[zap,hc];rfl) hu c (bI hx i c hc) rfl
  | agg cs vs hs h1 h ih =>
   intro x hx e
   cases x<;>simp only[EV.ren] at e<;>cases e
   simp only[cn] at hx
   rw[bO] at hs ih
   refine .agg _ vs (by simpa using hs) h1 λi c u hc hu=>ih i (c.ren ρ τ) u (by rw[zap,hc];rfl) hu c (bI hx i c hc) rfl
  | fX cs vs hs h ih =>
   intro x hx e
   cases x<;>simp only[EV.ren] at e<;>cases e
   simp only[cn] at hx
   rw[bO] at hs ih
   refine .fX _ vs (by simpa using hs) λi c u hc hu=>ih i (c.ren ρ τ) u (by rw[zap,hc];rfl) hu c (bI hx i c hc) rfl
  | gd b a v h0 h ih =>
   intro x hx e
   cases x<;>simp only[EV.ren] at e<;>cases e
   simp only[cn] at hx
   exact .gd _ _ v h0 λhb=>ih hb _ hx rfl
  | vc t k v eK hf h =>
   intro x hx e
   cases x<;>simp only[EV.ren] at e<;>cases e
   exact .vc _ _ v (bl hx) hf λx rows hy=>h x rows (ht _ _ hy)
  | vp t k i off v eK hf h =>
   intro x hx e
   cases x<;>simp only[EV.ren] at e<;>cases e
   exact .vp _ _ _ _ v (bl hx) hf λx rows hy=>h x rows (ht _ _ hy)
  | vw t k lo n v eK hf h =>
   intro x hx e
   cases x<;>simp only[EV.ren] at e<;>cases e
   exact .vw _ _ _ _ v (bl hx) hf λx rows hy=>h x rows (ht _ _ hy)
 intro x v hx h
 exact main h x hx rfl
theorem ai.up {g1:aw} {s1:St} (l6:∀ o,o<s1.ak.length->g'.ob (ρ o)=g1.ob o/\ρ o<st.ak.length) (kX:g'.ae=g1.ae)
  (ht:∀ t,t<s1.aa.length->st.aa[τ t]?=s1.aa[t]?/\g'.tk (τ t)=g1.tk t) {x:EV} {v:uB} (h:ai g1 w s1 x v):ai g' w st (x.ren ρ τ) v:=by
 have aG:∀ {t:Nat},t<s1.aa.length->τ t<st.aa.length:=fun {t} h=>by
  have h1:=(ht t h).1
  rw[zad h] at h1
  exact (zaa.1 h1).1
 induction h with
 | d a v h=>exact .d _ _ (by rw[kX];exact h)
 | ref o off h=>rw[←(l6 o h).1];exact .ref _ _ (l6 o h).2
 | kN o off n c h=>rw[←(l6 o h).1];exact .kN _ _ _ _ (l6 o h).2
 | cF sz rows t v el n hd eK hn hv =>
  have hl:=(zaa.1 eK).1
  exact .cF sz rows _ v el n (by rw[kX];exact hd) (by rw[(ht t hl).1];exact eK) hn (by rw[(ht t hl).2];exact hv)
 | mp o h=>rw[←(l6 o h).1];exact .mp _ (l6 o h).2
 | kO f cs vs hs h ih =>
  simp only[EV.ren,bO]
  refine .kO f _ vs (by simpa using hs) λi c u hc hu=>?_
  rw[zap] at hc
  obtain ⟨c',h1,rfl⟩:=zbk.1 hc
  exact ih i c' u h1 hu
 | agg cs vs hs h1 h ih =>
  simp only[EV.ren,bO]
  refine .agg _ vs (by simpa using hs) h1 λi c u hc hu=>?_
  rw[zap] at hc
  obtain ⟨c',h1,rfl⟩:=zbk.1 hc
  exact ih i c' u h1 hu
 | fX cs vs hs h ih =>
  simp only[EV.ren,bO]
  refine .fX _ vs (by simpa using hs) λi c u hc hu=>?_
  rw[zap] at hc
  obtain ⟨c',h1,rfl⟩:=zbk.1 hc
  exact ih i c' u h1 hu
 | gd b a v h0 h ih=>exact .gd _ _ v h0 ih
 | vc t k v eK hf h=>exact .vc _ _ v (aG eK) hf λx rows hx=>by rw[(ht t eK).1] at hx;rw[(ht t eK).2];exact h x rows hx
 | vp t k i off v eK hf h=>exact .vp _ _ _ _ v (aG eK) hf λx rows hx=>by rw[(ht t eK).1] at hx;rw[(ht t eK).2];exact h x rows hx
 | vw t k lo n v eK hf h=>exact .vw _ _ _ _ v (aG eK) hf λx rows hx=>by rw[(ht t eK).1] at hx;rw[(ht t eK).2];exact h x rows hx
structure Part (ρ τ:Nat->Nat) (s0 st:St):Prop where
 ak:∀ (o:Nat) (x:fj),s0.ak[o]?=some x->st.ak[ρ o]?=some (x.ren ρ τ)
 aa:∀ (t:Nat) (x:bU),s0.aa[t]?=some x->st.aa[τ t]?=some x
 yb:∀ o o',ρ o=ρ o'->o=o'
 yc:∀ t t',τ t=τ t'->t=t'
 ok:∀ (o:Nat) (x:fj),s0.ak[o]?=some x->dr s0.ak.length s0.aa.length x=true
theorem Part.live (h:Part ρ τ s0 st) {o:Nat} (hl:s0.live o):st.live (ρ o):=by
 obtain ⟨x,hx,aN⟩:=hl
 exact ⟨_,h.ak o x hx,λe=>aN (fj.oy e)⟩
theorem Part.owned (h:Part ρ τ s0 st) {b:Nat} (ho:eF (g.sub ρ τ) s0 b):eF g st b:=by
 rcases ho with ⟨o,h1,h2⟩|⟨t,x,h1,h2⟩
 ·exact .inl ⟨ρ o,h.live h1,h2⟩
 ·exact .inr ⟨τ t,x,h.aa t x h1,h2⟩
theorem Inv.part {base:Nat} (h:Inv g base w st) (p:Part ρ τ s0 st):Inv (g.sub ρ τ) base w s0:=by
 refine ⟨h.base,λo ty cs hx=>?_,λo es hx=>?_,λo y hx=>h.raw (ρ o) y (p.ak o _ hx),λo o' aN h1 h2=>h.ne _ _ (λe=>aN (p.yb o o' e)) (p.live h1) (p.live h2),λt e sz n hx=>h.tail (τ t) e sz n (p.aa t _ hx),
  λt t' x x' b aN h1 h2=>h.ed _ _ x x' b (λe=>aN (p.yc t t' e)) (p.aa t _ h1) (p.aa t' _ h2),λt x o h1 h2=>h.cN _ x _ (p.aa t _ h1) (p.live h2),h.eE,λt e sz n rows hx=>h.own (τ t) e sz n rows (p.aa t _ hx)⟩
 ·have ho:=p.ok o _ hx
  simp only[dr,zas] at ho
  have jQ:=p.ak o _ hx
  simp only[fj.ren,bO] at jQ
  obtain ⟨h1,h2,vs,h3,h4,h5⟩:=h.row (ρ o) ty _ jQ
  refine ⟨h1,h2,vs,h3,by simpa using h4,λi c u hc hu=>?_⟩
  have:=h5 i (c.ren ρ τ) u (by rw[zap,hc];rfl) hu
  exact ⟨this.1.down p.aa (ho c (zaq hc)),this.2⟩
 ·have ho:=p.ok o _ hx
  simp only[dr,zas] at ho
  have jQ:=p.ak o _ hx
  simp only[fj.ren] at jQ
  obtain ⟨h1,ms,c,h3,h4,h5,h6⟩:=h.map (ρ o) _ jQ
  refine ⟨h1,ms,c,h3,by simpa using h4,λi k x m hm nV=>?_,h6⟩
  have:=h5 i k (x.ren ρ τ) m (by rw[zap,hm];rfl) nV
  exact ⟨this.1,this.2.down p.aa (ho (k,x) (zaq hm))⟩
end ren
def gH:List EV->List EV->Prop
 | [],[]=>True
 | e::es,x::xs=>bV e x/\gH es xs
 | _,_=>False
theorem gH.get:∀ {es xs:O EV},gH es xs->es.length=xs.length/\∀ (i:Nat) x,xs[i]?=some x->∃ e,es[i]?=some e/\bV e x
 | [],[],_=>⟨rfl,λi y h=>by simp at h⟩
 | e::es,d::ds,h=>by
  obtain ⟨h1,h2⟩:=gH.get h.2
  refine ⟨by simp[h1],λi z hz=>?_⟩
  cases i with
  | zero=>simp at hz;subst hz;exact ⟨e,rfl,h.1⟩
  | succ i=>simpa using h2 i z (by simpa using hz)
 | [],_::_,h=>h.elim
 | _::_,[],h=>h.elim
theorem cQ.le {P:uF} {f:FuncId} {es xs:O EV} {st:St} {q:EV->St->Prop} (h:cQ P f xs st q) (hle:gH es xs):cQ P f es st q:=by
 intro g w base vs hi ha
 obtain ⟨h1,h2⟩:=hle.get
 refine h g w base vs hi ⟨by rw[ha.1,h1],λi x v hx hv=>?_⟩
 obtain ⟨e,he,hl⟩:=h2 i x hx
 exact hl _ _ _ _ (ha.2 i e v he hv)
section call
variable {P:uF} {f:Ctx} {N:Nat} {S:Start} {Q:EV->St->Prop} {k:List Item} {env:Env} {st:St} {ops rest:List Oper}
 {d:Option Tmp} {ty:uE} {pos:String} {after:uD Edge}
def QE (x:EV) (aI:St) (e:EV) (s:St):Prop:=bV e x/\s=aI
def oz (rs ts:List Nat) (s0 st:St):Bool :=
 nj rs st.ak.length && nj ts st.aa.length && Nat.beq rs.length s0.ak.length && Nat.beq ts.length s0.aa.length
theorem Part.of {rs ts:O Nat} {s0 st:St} (h:oz rs ts s0 st=true) (h5:s0.ak.all (dr s0.ak.length s0.aa.length)=true)
  (ho:rs.map (λr=>st.ak[r]?)=s0.ak.map (λx=>some (x.ren (cC rs st.ak.length) (cC ts st.aa.length)))) (ht:ts.map (λr=>st.aa[r]?)=s0.aa.map some) :
  Part (cC rs st.ak.length) (cC ts st.aa.length) s0 st/\si rs st.ak.length/\si ts st.aa.length/\rs.length=s0.ak.length/\ts.length=s0.aa.length:=by
 simp only[oz,zaf] at h
 rw[zas] at h5
 obtain ⟨⟨⟨h1,h2⟩,h3⟩,h4⟩:=h
 have e1:=si.of h1
 have e2:=si.of h2
 have l1:=zae h3
 have l2:=zae h4
 refine ⟨⟨λo x hx=>?_,λt x hx=>?_,λo o' e=>ma e1 e,λt t' e=>ma e2 e,λo x hx=>h5 x (zaq hx)⟩,e1,e2,l1,l2⟩
 ·have aG:o<rs.length:=by rw[l1];exact (zaa.1 hx).1
  have:=zao (λl=>l[o]?) ho
  simp only[zap,(ft e1 aG).2,hx,Option.map_some,Option.some.injEq] at this
  exact this
 ·have aG:t<ts.length:=by rw[l2];exact (zaa.1 hx).1
  have:=zao (λl=>l[t]?) ht
  simp only[zap,(ft e2 aG).2,hx,Option.map_some,Option.some.injEq] at this
  exact this
theorem cQ.lf {f:FuncId} {args:O EV} {x:EV} {aI:St} (h:cQ P f args st λe s=>∃ (rs ts:O Nat),oz rs ts aI s=true/\aI.ak.all (dr aI.ak.length aI.aa.length)=true/\cn aI.ak.length aI.aa.length x=true/\(Nat.ble st.ak.length rs.length && Nat.ble st.aa.length ts.length)=true /\
   rs.take st.ak.length=List.range st.ak.length/\ts.take st.aa.length=List.range st.aa.length /\
   rs.map (λr=>s.ak[r]?)=aI.ak.map (λy=>some (y.ren (cC rs s.ak.length) (cC ts s.aa.length)))/\ts.map (λr=>s.aa[r]?)=aI.aa.map some /\
   bV e (x.ren (cC rs s.ak.length) (cC ts s.aa.length))):cQ P f args st (QE x aI):=by
 intro g w base vs hi ha
 refine (h g w base vs hi ha).mono ?_
 rintro e w' ⟨v,r,s,g1,rfl,⟨rs,ts,hp,h5,hx,hl,xP,fK,ho,ht,hle⟩,hr,hinv,hh⟩
 obtain ⟨p,zp,xj,l1,l2⟩:=Part.of hp h5 ho ht
 simp only[zaf] at hl
 have Ar:=zac hl.1
 have oA:=zac hl.2
 have same:∀ {l:O Nat} {n N:Nat},l.take n=List.range n->n<=l.length->∀ i,i<n->cC l N i=i:=fun {l n N} hl hn i hi=>by
  have e:(l.take n)[i]?=some i:=by rw[hl,List.getElem?_range hi]
  rw[zai,zam hi] at e
  simp[cC,e]
 have so:=λi hi=>same (N:=s.ak.length) xP Ar i hi
 have xk:=λi hi=>same (N:=s.aa.length) fK oA i hi
 have sj:∀ {i:Nat},i<aI.aa.length->aI.aa[i]?=s.aa[cC ts s.aa.length i]?:=fun {i} hi=>by
  rw[p.aa i _ (zad hi),zad hi]
 refine ⟨v,x,aI,g1.sub _ _,rfl,⟨.qB _,rfl⟩,(hle _ _ _ _ hr).down p.aa hx,hinv.part p,⟨⟨hh.bn.bX,λo bR=>?_,(by show st.ak.length<=_;omega),λt e sz n hx=>?_,(by show st.aa.length<=_;omega),λt x' ab aG jQ bR=>?_⟩,hh.below,hh.ae,hh.frame,λb hb hw=>hh.fresh b hb (p.owned hw)⟩⟩
 ·show g1.ob (cC rs s.ak.length o)=g.ob o
  rw[so o bR]
  exact hh.bn.ob o bR
 ·have aG:t<st.aa.length:=(zaa.1 hx).1
  obtain ⟨n',a1,a2,a3⟩:=hh.bn.aa t e sz n hx
  refine ⟨n',?_,a2,λe'=>?_⟩
  ·rw[sj (by omega),xk t aG];exact a1
  ·show g1.tk (cC ts s.aa.length t)=g.tk t
   rw[xk t aG]
   exact a3 e'
 ·rw[sj (by have:=(zaa.1 jQ).1;exact this),xk t aG] at jQ
  obtain ⟨y,rows,a1,a2,a3,a4,a5⟩:=hh.bn.own t x' ab aG jQ bR
  refine ⟨y,rows,a1,a2,a3,a4,λe'=>?_⟩
  show g1.tk (cC ts s.aa.length t)=g.tk t
  rw[xk t aG]
  exact a5 e'
end call
section rep
variable {g:aw} {base:Nat} {w:uC} {st:St}
theorem vQ (h:Inv g base w st) {t e sz n:Nat} {rows:O (O D)} {v:uB} (bS:st.aa[t]?=some ⟨e,sz,n,some rows⟩) (hv:ai g w st (.vc t n) v) :
  v=g.tk t∨(n=0/\rows=[]/\∃ A,v=.slice A 0 0):=by
 cases hv with
 | vc _ _ _ ht hf hh =>
  rcases (hh _ rows bS rfl).2 rfl with h1|⟨h1,h3⟩
  ·exact .inl h1
  ·obtain ⟨xs,_,_,k⟩:=h.own t e sz n rows bS
   exact .inr ⟨h1,zan (by rw[k.len];exact h1),h3⟩
end rep
section drawn
variable {P:uF} {f:Ctx} {N:Nat} {S:Start} {Q:EV->St->Prop} {k:List Item}
def As (P:uF) (base:Nat) (l:List Oper) (env:Env) (st:St) (o:Oper) (x:EV) (aI:St):Prop :=
 (aI=st/\dp P l env st o x)∨(o.guard=none/\ib P base env st o x aI)∨(o.guard=none/\x=.d .any/\kQ P base env st o aI)
end drawn
structure oB (P:uF) (key:uE) (κ:Type) [BEq κ] [LawfulBEq κ] where
 ke:κ->uB
 find:∀ {α:Type} (k:κ) (l:List (κ×α)) (ms:List MapEntry) (w:uC),ms.map (·.key)=l.map (λp=>ke p.1) ->
  (Instr.findKey key (ke k) ms).run P w=.ok ((vN l k).bind λj=>(ms[j]?).map λm=>(j,m.val)) w
 bits:∀ a,Instr.sameBits 10000 (ke a) (ke a)=true
 check:∀ a b w,(Instr.checkKey b 10000 key (ke a)).run P w=.ok () w
def yd {κ:Type} (ke:κ->uB) (l:List (κ×EV)):List (uB×EV):=l.map λp=>(ke p.1,p.2)
section lit
variable {P:uF} {f:Ctx} {N:Nat} {S:Start} {Q:EV->St->Prop} {k:List Item} {κ:Type} [BEq κ] [LawfulBEq κ] {key:uE}
theorem aQ.split {todo:O Item} {env:Env} {st:St} (b:Bool) (ht:b=true->aQ P f N S Q todo env st) (hf:b=false->aQ P f N S Q todo env st):aQ P f N S Q todo env st:=by
 cases hb:b with
 | true=>exact ht hb
 | false=>exact hf hb
def vR (P:uF) (N:Nat) (l:List Oper) (m:Nat) (t:uE) (K:oB P key κ) (ins:List (Nat×κ×EV)) (qM:St) (i:Nat) (o:Oper) (env:Env) (x:EV):Prop :=
  aK N o.dst=true /\
  (((Nat.beq i m || ins.any λe=>Nat.beq e.1 i)=false/\∀ st,(st=qM∨∃ es,st=qM.add (.map es))->dp P l env st o x) ∨
   (i=m/\o.guard=none/\x=.mp qM.ak.length/\∃ t,o.op=.makeMap t none) ∨
   (∃ kk v dk a b c,(i,kk,v)∈ins/\x=.d .any/\o.guard=none/\o.op=.insert t a b c/\bX env a=some (.mp qM.ak.length)/\bX env b=some (.d dk)/\(∀ ae w v,aJ ae w dk v->v=K.ke kk)/\bX env c=some v /\
      ((aE l []).getD i 0).testBit m=true))
def gI (P:uF) (N:Nat) (l:List Oper) (m:Nat) (t:uE) (K:oB P key κ) (ins:List (Nat×κ×EV)) (qM:St):Nat->List Oper->List EV->Env->Prop
 | _,[],[],_=>True
 | i,o::os,x::xs,env=>vR P N l m t K ins qM i o (bp l o env) x/\gI P N l m t K ins qM (i+1) os xs (env.put o.dst x)
 | _,_,_,_=>False
theorem gI.length {l:O Oper} {m:Nat} {t:uE} {K:oB P key κ} {ins:O (Nat×κ×EV)} {qM:St}:∀ {i:Nat} {os:O Oper} {xs:O EV} {env:Env},gI P N l m t K ins qM i os xs env->xs.length=os.length
 | _,[],[],_,_=>rfl
 | _,o::os,x::xs,env,h=>by simp[gI.length h.2]
 | _,[],x::xs,_,h=>h.elim
 | _,o::os,[],_,h=>h.elim
def nk (P:uF) (f:Ctx) (N:Nat) (S:Start) (Q:EV->St->Prop) (l:List Oper) (p m:Nat) (t:uE) (K:oB P key κ) (ins:List (Nat×κ×EV)) (i:Nat) (os:List Oper) (k:List Item) (env:Env) (st:St):Prop :=
 ∃ xs,gI P N l m t K ins st i os xs env/\∀ es,es.Perm (ins.map (·.2))->ba P f N S Q l (l.drop p) k (aU env os xs) (st.add (.map (yd K.ke es)))
variable {l:List Oper} {p m:Nat} {t:uE} {K:oB P key κ} {ins:List (Nat×κ×EV)} {i:Nat} {os:List Oper} {env:Env} {st:St} {d:Option Tmp} {op:Op} {ty:uE} {pos:String} {after:uD Edge} {x:EV}
theorem nk.g (h:∀ s,(s=st∨∃ es,s=st.add (.map es))->jP P (bp l ⟨d,op,ty,pos,after,none⟩ env) s ⟨d,op,ty,pos,after,none⟩ x) (hb:(Nat.beq i m || ins.any λe=>Nat.beq e.1 i)=false) (hd:aK N d=true)
  (hk:nk P f N S Q l p m t K ins (i+1) os k (env.put d x) st):nk P f N S Q l p m t K ins i (⟨d,op,ty,pos,after,none⟩::os) k env st:=by
 obtain ⟨xs,h1,h2⟩:=hk
 exact ⟨x::xs,⟨⟨hd,.inl ⟨hb,λs hs=>.inl ⟨rfl,h s hs⟩⟩⟩,h1⟩,h2⟩
theorem nk.q (h:∀ s,(s=st∨∃ es,s=st.add (.map es))->kR P (bp l ⟨d,op,ty,pos,after,none⟩ env) s ⟨d,op,ty,pos,after,none⟩ x) (hb:(Nat.beq i m || ins.any λe=>Nat.beq e.1 i)=false) (hd:aK N d=true)
  (hk:nk P f N S Q l p m t K ins (i+1) os k (env.put d x) st):nk P f N S Q l p m t K ins i (⟨d,op,ty,pos,after,none⟩::os) k env st:=.g (λs hs=>(h s hs).g) hb hd hk
end lit
section keys
variable {P:uF}
theorem eO {k:FK} {v:uB} (h:bm k v=true) (n:Nat):Instr.sameBits n v v=true:=by
 cases v<;>cases k<;>simp[bm] at h<;>simp[Instr.sameBits]<;>(rw[beq_toListBytes];simp)
theorem dW:∀ {ks:O FK} {vs:O uB},fitAll ks vs=true->∀ n,(vs.zip vs).all (λp=>Instr.sameBits n p.1 p.2)=true
 | [],[],_,n=>rfl
 | k::ks,v::vs,h,n=>by
  simp only[fitAll,zaf] at h
  simp only[List.zip_cons_cons,List.all_cons,eO h.1,dW h.2,Bool.and_self]
 | [],_::_,h,_=>by cases h
 | _::_,[],h,_=>by cases h
theorem jo {t:uE} {k:FK} (h:il (P.underlying t)=some k) {v:uB} (hv:bm k v=true) (b:Bool) (n:Nat) (w:uC):(Instr.checkKey b (n+1) t v).run P w=.ok () w:=by
 cases hd:P.underlying t with
 | none=>rw[hd] at h;cases h
 | some mV =>
  rw[hd] at h
  cases mV<;>simp only[il,Option.some.injEq,reduceCtorEq] at h<;>subst h<;>cases v<;>simp[bm] at hv<;>simp[Instr.checkKey,run_underlying hd]
theorem fP (b:Bool) (n:Nat) (w:uC) (X:uD uB):∀ (fs:List Field) (k:Nat) (ks:List FK) (vs:List uB),bN P k fs=some ks->fitAll ks vs=true->(∀ (j:Nat) v,vs[j]?=some v->X[k+j]?=some v) ->
  (forIn fs PUnit.unit (λf _=>do
   if f.name ≠ "_" then do
    Instr.checkKey b (n+1) f.type (←part f.type X f.offset)
    pure (.yield PUnit.unit)
   else pure (.yield PUnit.unit)):Sem PUnit).run P w=.ok PUnit.unit w
 | [],k,ks,vs,h,hv,hX=>by simp
 | f::fs,k,ks,vs,h,hv,hX=>by
  unfold bN at h
  split at h
  ·rename_i kk vO h1 h2 h3 h4
   simp only[Option.some.injEq] at h
   subst h
   match vs with
   | []=>cases hv
   | v::vs =>
    simp only[fitAll,zaf] at hv
    have ho:=zae h1
    have j7:f.name ≠ "_" := zaw h2
    have px:=cK h3 (cs:=X) (off:=f.offset) (hX 0 v rfl |> λh=>by rw[ho];simpa using h) w
    have pc:=jo h3 hv.1 b n w
    have ih:=fP b n w X fs (k+1) vO vs h4 hv.2 (λj v hv=>by have:=hX (j+1) v (by simpa using hv);rwa [show k+1+j=k+(j+1) by omega])
    rw[List.forIn_cons]
    simp only[zam j7,Sem.run_bind,px,pc,Result.andThen_ok,Sem.run_pure]
    exact ih
  ·cases h
end keys
structure oC (l:List Oper) (p:Nat) (σ:List Nat):Prop where
 nodup:σ.Nodup
 mem:∀ i,i∈σ↔i<p
 mask:∀ pre i post,σ=pre++i::post->∀ j,((aE l []).getD i 0).testBit j=true->j∈pre
section run
variable {P:uF} {f:Ctx} {N:Nat} {S:Start} {Q:EV->St->Prop} {k:List Item}
def ye (P:uF) (base:Nat) (env:Env) (st:St) (o:Oper) (x:EV) (aI:St):Prop :=
 ∀ g w tmps,Inv g base w st->aH g w st env tmps->∃ f' args,(execOp (Act.eval ⟨tmps,[]⟩) o).run P w=.ok (.enter f' args) w /\
  Calls P f' args w λe w'=>∃ v g',e=.returned v/\ai g' w' aI x v/\Inv g' base w' aI/\Step base g w st g' w' aI
def At (P:uF) (base:Nat) (l:List Oper) (env:Env) (st:St) (o:Oper) (x:EV) (aI:St):Prop:=As P base l env st o x aI∨(o.guard=none/\ye P base env st o x aI)
theorem aQ.yf {l:O Oper} {p:Nat} {σ:O Nat} {env:Env} {st:St} (hs:oC l p σ) (hp:p<=l.length) (xs:O EV) (F:O Nat->St->Prop)
  (vH:∀ i j t,i<p->j<p->i≠j->aj l i=some t->aj l j≠some t)
  (sg:∀ (i:Nat) o,i<p->l[i]?=some o->∀ t∈dU l o,∀ j,j<p->j≠i->aj l j=some t->(j<i/\((aE l []).getD i 0).testBit j=true)∨(i<j/\((aE l []).getD j 0).testBit i=true))
  (zq:xs.length=p) (Au:F [] st)
  (fL:∀ pre i post st o,σ=pre++i::post->l[i]?=some o->F pre st->aK N o.dst=true/\∃ x aI,xs[i]?=some x/\At P S.base l (bp l o (aU env ((l.take p).take i) (xs.take i))) st o x aI/\F (pre++[i]) aI)
  (k8:∀ st,F σ st->ba P f N S Q l (l.drop p) k (aU env (l.take p) xs) st):aQ P f N S Q (.inRegion l.toArray (σ++List.range' p (l.length-p))::k) env st:=by
 have qH:xs.length=(l.take p).length:=by simp;omega
 suffices key:∀ (post pre:O Nat) (st:St) (g:aw) (w:uC) (tmps:uD uB),σ=pre++post->F pre st->Inv g S.base w st->eG S g w st->tmps.size=N ->
   (∀ (s:Tmp),(∀ (j:Nat) x,j∈pre->aj l j=some s->xs[j]?=some x->∃ v,tmps[s]?=some v/\ai g w st x v) /\
    ((∀ j,j∈pre->aj l j≠some s)->∀ y,lookup s env=some y->∃ v,tmps[s]?=some v/\ai g w st y v)) ->
   ag P f (dS S Q) (.inRegion l.toArray (post++List.range' p (l.length-p))::k) tmps w by
  intro g w tmps hinv hh he hN
  exact key σ [] st g w tmps rfl Au hinv hh hN λs=>⟨λj x hj=>by (cases hj),λ_ y hy=>he s y hy⟩
 intro post
 induction post with
 | nil =>
  intro pre st g w tmps hσ hF hinv hh hN hJ
  rw[zbr] at hσ
  subst hσ
  have xT:(l.drop p).length=l.length-p:=by simp
  rw[List.nil_append,←xT]
  refine k8 st hF p (λj=>by rw[zbp]) g w tmps hinv hh (λs y hy=>?_) hN
  rcases bq qH hy with ⟨j,o,h1,h2,h3⟩|⟨h1,h2⟩
  ·have hj:j<p:=by have:=(zaa.1 h2).1;omega
   have ho:l[j]?=some o:=by rw[zai] at h1;rw[zam hj] at h1;exact h1
   exact (hJ s).1 j y ((hs.mem j).2 hj) (by simp[aj,ho,h3]) h2
  ·refine (hJ s).2 (λj hj hd=>?_) y h2
   have de:=(hs.mem j).1 hj
   cases ho:l[j]? with
   | none=>simp[aj,ho] at hd
   | some o=>exact h1 j o (by rw[zai,zam de];exact ho) (by simpa [aj,ho] using hd)
 | cons i post ih =>
  intro pre st g w tmps hσ hF hinv hh hN hJ
  have hi:i<p:=(hs.mem i).1 (by rw[hσ];simp)
  have bK:i<l.length:=by omega
  obtain ⟨o,bR⟩:∃ o,l[i]?=some o:=⟨_,zad bK⟩
  have eM:=hs.mask pre i post hσ
  have mb:i ∉ pre:=by
   have:=hs.nodup
   rw[hσ,List.nodup_append] at this
   exact λhm=>this.2.2 i hm i List.mem_cons_self rfl
  have hprelt:∀ j,j∈pre->j<p:=λj hj=>(hs.mem j).1 (by rw[hσ];simp[hj])
  obtain ⟨hd,x,aI,hx,gB,vS⟩:=fL pre i post st o hσ bR hF
  -- what the operation looks at
  have he:aH g w st (bp l o (aU env ((l.take p).take i) (xs.take i))) tmps:=by
   intro s y hy
   obtain ⟨tn,qJ⟩:=cV hy
   rcases bq (by simp[qH]) qJ with ⟨j,o',h1,h2,h3⟩|⟨h1,h2⟩
   ·have ct:j<i:=by have:=(zaa.1 h2).1;simp at this;omega
    have la:l[j]?=some o':=by
     rw[zai,zam ct,zai,zam (by omega)] at h1;exact h1
    have cm:aj l j=some s:=by simp[aj,la,h3]
    rcases sg i o hi bR s tn j (by omega) (by omega) cm with ⟨_,hb⟩|⟨aG,_⟩
    ·exact (hJ s).1 j y (eM j hb) cm (by rw[zai,zam ct] at h2;exact h2)
    ·omega
   ·refine (hJ s).2 (λj hj cm=>?_) y h2
    have ct:j≠i:=λe=>mb (e▸hj)
    rcases sg i o hi bR s tn j (hprelt j hj) ct cm with ⟨aG,_⟩|⟨aG,hb⟩
    ·cases la:l[j]? with
     | none=>simp[aj,la] at cm
     | some o'=>exact h1 j o' (by rw[zai,zam aG,zai,zam (hprelt j hj)];exact la) (by simpa [aj,la] using cm)
    ·-- j came ahead of i,though it must come behind it
     obtain ⟨a,b,cE⟩:=List.append_of_mem hj
     have:=hs.mask a j (b++i::post) (by rw[hσ,cE];simp) i hb
     exact absurd (by rw[cE];simp[this]:i∈pre) mb
  have next:∀ (g':aw) (w':uC) (v:uB),ai g' w' aI x v->Inv g' S.base w' aI->Step S.base g w st g' w' aI ->
    ag P f (dS S Q) (.inRegion l.toArray (post++List.range' p (l.length-p))::k) (Act.put ⟨tmps,[]⟩ o.dst v).tmps w':=by
   intro g' w' v l5 aM bQ
   refine ih (pre++[i]) aI g' w' _ (by rw[hσ];simp) vS aM (hh.step bQ) (by rw[aZ];exact hN) λs=>⟨λj y hj cm hy=>?_,λgC y hy=>?_⟩
   ·by_cases ct:j=i
    ·subst ct
     have ov:o.dst=some s:=by simpa [aj,bR] using cm
     rw[hx] at hy
     cases hy
     rw[ov]
     have dh:s<tmps.size:=by
      rw[ov] at hd
      have tq:s+1<=N:=zac hd
      rw[hN]
      exact tq
     exact ⟨v,by simp[Act.put,dh],l5⟩
    ·have de:j∈pre:=by
      rcases zbq.1 hj with h|h
      ·exact h
      ·exact absurd (List.mem_singleton.1 h) ct
     obtain ⟨u,h1,h2⟩:=(hJ s).1 j y de cm hy
     have gD:o.dst≠some s:=λe=>vH j i s (hprelt j de) hi ct cm (by simp[aj,bR,e])
     refine ⟨u,?_,h2.mono bQ.bn⟩
     cases tu:o.dst with
     | none=>exact h1
     | some d =>
      have:d≠s:=λe=>gD (by rw[tu,e])
      simp[Act.put,zar,this,h1]
   ·have gD:o.dst≠some s:=λe=>gC i (by simp) (by simp[aj,bR,e])
    obtain ⟨u,h1,h2⟩:=(hJ s).2 (λj hj=>gC j (by simp[hj])) y hy
    refine ⟨u,?_,h2.mono bQ.bn⟩
    cases tu:o.dst with
    | none=>exact h1
    | some d =>
     have:d≠s:=λe=>gD (by rw[tu,e])
     simp[Act.put,zar,this,h1]
  have l9:l.toArray[i]?=some o:=by simpa using bR
  show ag P f (dS S Q) (.inRegion l.toArray (i::_)::k) tmps w
  have j9:aI=st->∀ (aC:Nat->Nat) (w':uC) (v:uB),Good g w st x aC w' v ->
    ag P f (dS S Q) (.inRegion l.toArray (post++List.range' p (l.length-p))::k) (Act.put ⟨tmps,[]⟩ o.dst v).tmps w':=by
   rintro rfl aC w' v ⟨l5,hb,hl⟩
   obtain ⟨aM,bQ⟩:=hinv.grow (g':={ g with ae:=aC }) hb hl rfl rfl
   exact next _ w' v l5 aM bQ
  rcases gB with (⟨vT,gB⟩|⟨hg,gB⟩|⟨hg,rfl,gB⟩)|⟨hg,gB⟩
  ·rcases gB with ⟨hg,gB⟩|⟨j,want,tt,c,b,y,ay,hg,hj,xZ,x5,rfl,hE,gB⟩
   ·have hw:Region.wanted o (yielded l.toArray tmps)=true:=by simp[Region.wanted,hg]
    rcases gB g S.base w tmps hinv he with ⟨v,aC,w',hr,gE⟩|⟨f',args,hr,hc⟩
    ·exact ag.value l9 hw hr (j9 vT aC w' v gE)
    ·exact ag.call l9 hw hr (hc.mono λe w' ⟨v,aC,h1,h2⟩=>⟨v,h1,j9 vT aC w' v h2⟩)
   ·obtain ⟨u,hu,x6⟩:=he tt c xZ
    have hw:Region.wanted o (yielded l.toArray tmps)=b:=by
     rw[←dG x5 x6]
     have de:((l.toArray)[j]?).bind (·.dst)=some tt:=by simpa using hj
     simp only[Region.wanted,hg,yielded,de,zat,hu]
     cases u<;>rfl
    cases b with
    | false=>exact ag.cG l9 hw (j9 vT g.ae w undef ⟨.gd _ _ _ (λ_=>rfl) (λh=>by cases h),.refl _ _,λ_ _=>rfl⟩)
    | true =>
     have wrap:∀ aC w' v,Good g w st y aC w' v->Good g w st (.gd true y) aC w' v:=λaC w' v ⟨a,b,c⟩=>⟨.gd _ _ _ (λh=>by cases h) (λ_=>a),b,c⟩
     rcases gB rfl g S.base w tmps hinv (he.gd hE rfl) with ⟨v,aC,w',hr,gE⟩|⟨f',args,hr,hc⟩
     ·exact ag.value l9 hw hr (j9 vT aC w' v (wrap _ _ _ gE))
     ·exact ag.call l9 hw hr (hc.mono λe w' ⟨v,aC,h1,h2⟩=>⟨v,h1,j9 vT aC w' v (wrap _ _ _ h2)⟩)
  ·have hw:Region.wanted o (yielded l.toArray tmps)=true:=by simp[Region.wanted,hg]
   obtain ⟨v,g',w',hr,l5,aM,bQ⟩:=gB g w tmps hinv he
   exact ag.value l9 hw hr (next g' w' v l5 aM bQ)
  ·have hw:Region.wanted o (yielded l.toArray tmps)=true:=by simp[Region.wanted,hg]
   obtain ⟨g',w',hr,aM,bQ⟩:=gB g w tmps hinv he
   exact ag.skip l9 hw hr (next g' w' undef (.d _ _ (.any _)) aM bQ)
  ·have hw:Region.wanted o (yielded l.toArray tmps)=true:=by simp[Region.wanted,hg]
   obtain ⟨f',args,hr,hc⟩:=gB g w tmps hinv he
   exact ag.call l9 hw hr (hc.mono λe w' ⟨v,g',h1,l5,aM,bQ⟩=>⟨v,h1,next g' w' v l5 aM bQ⟩)
def nm:List St->(St->Prop)->Prop
 | [],_=>True
 | s::r,p=>p s/\nm r p
theorem nm.get {p:St->Prop}:∀ {ss:O St} {i:Nat} {s:St},nm ss p->ss[i]?=some s->p s
 | s::r,0,s',h,hs=>by simp at hs;subst hs;exact h.1
 | s::r,i+1,s',h,hs=>nm.get h.2 (by simpa using hs)
 | [],i,s',h,hs=>by simp at hs
def tA (l:List Oper) (E:List Nat) (i m:Nat):Bool:=E.zipIdx.all λe=>(!((aE l []).getD i 0).testBit e.1 || decide (e.2<m)) && (!((aE l []).getD e.1 0).testBit i || decide (m<=e.2))
def lg (l:List Oper) (E:List Nat) (i lo hi:Nat):Bool:=(List.range (E.length+1)).all λm=>!tA l E i m || (decide (lo<=m) && decide (m<=hi))
def sk (P:uF) (N base:Nat) (l:List Oper) (E:List Nat) (aR:List St) (i:Nat) (o:Oper) (env:Env) (x:EV):Prop :=
  aK N o.dst=true /\
  ((∃ lo hi,(!E.any λe=>Nat.beq e i)=true/\lg l E i lo hi=true/\nm ((aR.take (hi+1)).drop lo) λs=>dp P l env s o x) ∨
   (∃ m s s',E[m]?=some i/\aR[m]?=some s/\aR[m+1]?=some s'/\o.guard=none/\(ib P base env s o x s'∨(x=.d .any/\kQ P base env s o s')∨ye P base env s o x s')))
def cY (P:uF) (N base:Nat) (l:List Oper) (E:List Nat) (aR:List St):Nat->List Oper->List EV->Env->Prop
 | _,[],[],_=>True
 | i,o::os,x::xs,env=>sk P N base l E aR i o (bp l o env) x/\cY P N base l E aR (i+1) os xs (env.put o.dst x)
 | _,_,_,_=>False
theorem cY.length {base:Nat} {l:O Oper} {E:O Nat} {aR:O St}:∀ {i:Nat} {os:O Oper} {xs:O EV} {env:Env},cY P N base l E aR i os xs env->xs.length=os.length
 | _,[],[],_,_=>rfl
 | _,o::os,x::xs,env,h=>by simp[cY.length h.2]
 | _,[],x::xs,_,h=>h.elim
 | _,o::os,[],_,h=>h.elim
theorem cY.get {base:Nat} {l:O Oper} {E:O Nat} {aR:O St}:∀ {i:Nat} {os:O Oper} {xs:O EV} {env:Env} {j:Nat} {o:Oper},cY P N base l E aR i os xs env->os[j]?=some o ->
  ∃ x,xs[j]?=some x/\sk P N base l E aR (i+j) o (bp l o (aU env (os.take j) (xs.take j))) x
 | i,o'::os,x::xs,env,0,o,h,ho=>by
  simp at ho;subst ho
  exact ⟨x,rfl,by simpa [aU] using h.1⟩
 | i,o'::os,x::xs,env,j+1,o,h,ho=>by
  obtain ⟨y,h1,h2⟩:=cY.get (j:=j) h.2 (by simpa using ho)
  exact ⟨y,by simpa using h1,by simpa [aU,zay,zcg 1 j] using h2⟩
 | i,[],xs,env,j,o,h,ho=>by simp at ho
 | i,o'::os,[],_,_,_,h,_=>h.elim
theorem aQ.yg {l:O Oper} {p:Nat} {σ:O Nat} {env:Env} {st ga:St} (hB:fM l p=true) (hs:oC l p σ) (E:O Nat) (aR:O St) (hE:σ.filter (λi=>E.any λe=>Nat.beq e i)=E) {xs:O EV}
  (h0:aR[0]?=some st) (hF:aR[E.length]?=some ga) (qs:cY P N S.base l E aR 0 (l.take p) xs env) (k8:ba P f N S Q l (l.drop p) k (aU env (l.take p) xs) ga) :
  aQ P f N S Q (.inRegion l.toArray (σ++List.range' p (l.length-p))::k) env st:=by
 simp only[fM,zaf] at hB
 obtain ⟨⟨⟨⟨vI,vJ⟩,x7⟩,xh⟩,xi⟩:=hB
 have hp:p<=l.length:=by simpa using xi
 have zq:xs.length=p:=by rw[qs.length];simp;omega
 refine aQ.yf hs hp xs (λpre s=>aR[(pre.filter λi=>E.any λe=>Nat.beq e i).length]?=some s) ?_ ?_ zq h0 ?_ ?_
 ·intro i j t hi hj vK vL cm
  have:=aq (aq vJ hi) hj
  simp[vK,vL,cm] at this
 ·intro i o hi ho t ht j hj ct cm
  have h1:=aq vI hi
  rw[ho] at h1
  simp only[zas] at h1
  have h2:=aq (h1 t ht) hj
  simp only[cm,bne_self_eq_false,Bool.or_false,zbs,zaf,zbm,beq_iff_eq] at h2
  rcases h2 with (h2|h2)|h2
  ·exact absurd h2.symm ct
  ·exact .inl h2
  ·exact .inr h2
 ·intro pre i post s o hσ ho tB
  have hi:i<p:=(hs.mem i).1 (by rw[hσ];simp)
  obtain ⟨x,hx,bQ⟩:=qs.get (j:=i) (o:=o) (by rw[zai,zam hi];exact ho)
  rw[zbd] at bQ
  obtain ⟨hd,bQ⟩:=bQ
  refine ⟨hd,x,?_⟩
  -- how far the turning operations have come
  have jq:E=(pre.filter λi=>E.any λe=>Nat.beq e i)++((i::post).filter λi=>E.any λe=>Nat.beq e i):=by
   have:=hE
   rw[hσ,List.filter_append] at this
   exact this.symm
  generalize hm:(pre.filter λi=>E.any λe=>Nat.beq e i).length=m at tB
  have Br:m<=E.length:=by rw[jq,zbb,hm];omega
  rcases bQ with ⟨lo,fZ,aN,hb,bF⟩|⟨m',s0,s1,zt,zu,yh,hg,gB⟩
  ·have yi:(E.any λe=>Nat.beq e i)=false:=by simpa using aN
   have yj:tA l E i m=true:=by
    unfold tA
    rw[zas]
    rintro ⟨e,j⟩ Av
    have xl:E[j]?=some e:=by
     have:=List.mem_zipIdx_iff_getElem?.1 Av
     simpa using this
    have qN:(E.any λe'=>Nat.beq e' e)=true:=List.any_eq_true.2 ⟨e,zaq xl,zbv e⟩
    simp only[zaf,zbs,Bool.not_eq_true',zbm]
    have oD:E.Nodup:=by rw[←hE];exact hs.nodup.filter _
    constructor
    ·cases tC:((aE l []).getD i 0).testBit e with
     | false=>exact .inl rfl
     | true =>
      right
      have sn:=hs.mask pre i post hσ e tC
      have yk:e∈pre.filter λi=>E.any λe=>Nat.beq e i:=zbw.2 ⟨sn,qN⟩
      obtain ⟨a,ha,Aw⟩:=List.mem_iff_getElem.1 yk
      have:E[a]?=some e:=by rw[jq,zak ha,zad ha,Aw]
      have Bs:a=j:=by
       have h1:=(zaa.1 this)
       have h2:=(zaa.1 xl)
       exact (List.getElem_inj oD).1 (h1.2.trans h2.2.symm)
      omega
    ·cases tC:((aE l []).getD e 0).testBit i with
     | false=>exact .inl rfl
     | true =>
      right
      -- e comes behind i
      rcases Nat.lt_or_ge j m with zw|zw
      ·have h1:(pre.filter λi=>E.any λe=>Nat.beq e i)[j]?=some e:=by
        rw[jq,zak (by omega)] at xl
        exact xl
       have sn:e∈pre:=(zbw.1 (zaq h1)).1
       obtain ⟨a,b,cE⟩:=List.append_of_mem sn
       have:=hs.mask a e (b++i::post) (by rw[hσ,cE];simp) i tC
       have mb:i ∉ pre:=by
        have:=hs.nodup
        rw[hσ,List.nodup_append] at this
        exact λhm=>this.2.2 i hm i List.mem_cons_self rfl
       exact absurd (by rw[cE];simp[this]:i∈pre) mb
      ·exact zw
   have qO:=zas.1 hb m (List.mem_range.2 (by omega))
   rw[yj] at qO
   simp only[Bool.not_true,Bool.false_or,zaf,zbm] at qO
   refine ⟨s,hx,.inl (.inl ⟨rfl,bF.get (i:=m-lo) ?_⟩),?_⟩
   ·rw[zbp,zai,zam (by omega),show lo+(m-lo)=m by omega]
    exact tB
   ·rw[List.filter_append,zca,yi]
    simp only[zal,zcp,List.filter_nil,zbr]
    rw[hm];exact tB
  ·have qN:(E.any λe'=>Nat.beq e' i)=true:=List.any_eq_true.2 ⟨i,zaq zt,zbv i⟩
   have oD:E.Nodup:=by rw[←hE];exact hs.nodup.filter _
   have yl:E[m]?=some i:=by
    rw[jq,zav (by omega),hm,Nat.sub_self,zca,qN]
    rfl
   have xm:m=m':=by
    have h1:=(zaa.1 yl)
    have h2:=(zaa.1 zt)
    exact (List.getElem_inj oD).1 (h1.2.trans h2.2.symm)
   subst xm
   rw[tB] at zu
   cases zu
   refine ⟨s1,hx,?_,?_⟩
   ·rcases gB with h|⟨h1,h2⟩|h
    ·exact .inl (.inr (.inl ⟨hg,h⟩))
    ·exact .inl (.inr (.inr ⟨hg,h1,h2⟩))
    ·exact .inr ⟨hg,h⟩
   ·rw[List.filter_append,zca,qN]
    simp only[zcf,List.filter_nil,zbb,List.length_singleton,hm]
    exact yh
 ·intro s tB
  rw[hE,hF] at tB
  cases tB
  exact k8
def dP (P:uF) (f:Ctx) (N:Nat) (S:Start) (Q:EV->St->Prop) (l:List Oper) (p:Nat) (E:List Nat) (aR:List St) (i:Nat) (os:List Oper) (k:List Item) (env:Env):Prop :=
 ∃ xs ga,aR[E.length]?=some ga/\cY P N S.base l E aR i os xs env/\ba P f N S Q l (l.drop p) k (aU env os xs) ga
variable {l:List Oper} {p:Nat} {E:List Nat} {aR:List St} {i:Nat} {os:List Oper} {env:Env} {st:St} {d:Option Tmp} {op:Op} {ty:uE} {pos:String} {after:uD Edge} {x:EV}
def np (P:uF) (l:List Oper) (env:Env) (o:Oper) (x:EV):List St->Prop
 | []=>True
 | s::r=>jP P (bp l o env) s o x/\np P l env o x r
theorem np.all {o:Oper} {P:uF} {l:O Oper} {env:Env} {x:EV} (hg:o.guard=none):∀ {ss:O St},np P l env o x ss->nm ss λs=>dp P l (bp l o env) s o x
 | [],_=>trivial
 | s::r,h=>⟨.inl ⟨hg,h.1⟩,np.all hg h.2⟩
theorem dP.g (lo hi:Nat) (h:np P l env ⟨d,op,ty,pos,after,none⟩ x ((aR.take (hi+1)).drop lo)) (aN:(!E.any λe=>Nat.beq e i)=true) (hb:lg l E i lo hi=true) (hd:aK N d=true)
  (hk:dP P f N S Q l p E aR (i+1) os k (env.put d x)):dP P f N S Q l p E aR i (⟨d,op,ty,pos,after,none⟩::os) k env:=by
 obtain ⟨xs,ga,h0,h1,h2⟩:=hk
 exact ⟨x::xs,ga,h0,⟨⟨hd,.inl ⟨lo,hi,aN,hb,h.all rfl⟩⟩,h1⟩,h2⟩
theorem dP.G (lo hi:Nat) (h:np P l env ⟨d,op,ty,pos,after,none⟩ x ((aR.take (hi+1)).drop lo)) (aN:(!E.any λe=>Nat.beq e i)=true) (hd:aK N d=true)
  (hk:dP P f N S Q l p E aR (i+1) os k (env.put d x)) (hb:lg l E i lo hi=true:=by kernel_rfl):dP P f N S Q l p E aR i (⟨d,op,ty,pos,after,none⟩::os) k env:=.g lo hi h aN hb hd hk
theorem dP.v {s s':St} (m:Nat) (h:ib P S.base (bp l ⟨d,op,ty,pos,after,none⟩ env) s ⟨d,op,ty,pos,after,none⟩ x s') (hE:E[m]?=some i) (h1:aR[m]?=some s) (h2:aR[m+1]?=some s') (hd:aK N d=true)
  (hk:dP P f N S Q l p E aR (i+1) os k (env.put d x)):dP P f N S Q l p E aR i (⟨d,op,ty,pos,after,none⟩::os) k env:=by
 obtain ⟨xs,ga,h0,h3,h4⟩:=hk
 exact ⟨x::xs,ga,h0,⟨⟨hd,.inr ⟨m,s,s',hE,h1,h2,rfl,.inl h⟩⟩,h3⟩,h4⟩
theorem dP.u {s s':St} (m:Nat) (h:kQ P S.base (bp l ⟨d,op,ty,pos,after,none⟩ env) s ⟨d,op,ty,pos,after,none⟩ s') (hE:E[m]?=some i) (h1:aR[m]?=some s) (h2:aR[m+1]?=some s') (hd:aK N d=true)
  (hk:dP P f N S Q l p E aR (i+1) os k (env.put d (.d .any))):dP P f N S Q l p E aR i (⟨d,op,ty,pos,after,none⟩::os) k env:=by
 obtain ⟨xs,ga,h0,h3,h4⟩:=hk
 exact ⟨.d .any::xs,ga,h0,⟨⟨hd,.inr ⟨m,s,s',hE,h1,h2,rfl,.inr (.inl ⟨rfl,h⟩)⟩⟩,h3⟩,h4⟩
theorem dP.c {s s':St} (m:Nat) (h:ye P S.base (bp l ⟨d,op,ty,pos,after,none⟩ env) s ⟨d,op,ty,pos,after,none⟩ x s') (hE:E[m]?=some i) (h1:aR[m]?=some s) (h2:aR[m+1]?=some s') (hd:aK N d=true)
  (hk:dP P f N S Q l p E aR (i+1) os k (env.put d x)):dP P f N S Q l p E aR i (⟨d,op,ty,pos,after,none⟩::os) k env:=by
 obtain ⟨xs,ga,h0,h3,h4⟩:=hk
 exact ⟨x::xs,ga,h0,⟨⟨hd,.inr ⟨m,s,s',hE,h1,h2,rfl,.inr (.inr h)⟩⟩,h3⟩,h4⟩
theorem aQ.cp {σ:O Nat} {env:Env} {st:St} (hB:fM l p=true) (hs:oC l p σ) (hE:σ.filter (λi=>E.any λe=>Nat.beq e i)=E) (h0:aR[0]?=some st) (h:dP P f N S Q l p E aR 0 (l.take p) k env) :
  aQ P f N S Q (.inRegion l.toArray (σ++List.range' p (l.length-p))::k) env st:=by
 obtain ⟨xs,ga,h1,h2,h3⟩:=h
 exact .yg hB hs E aR hE h0 h1 h2 h3
end run
def ym (l:List Oper) (E:List Nat) (i n:Nat):Bool :=
 E.zipIdx.all λe=>(!((aE l []).getD i 0).testBit e.1 || n.testBit e.2) && (!(((aE l []).getD e.1 0).testBit i || Nat.beq e.1 i) || !n.testBit e.2) && (!n.testBit e.2 || E.zipIdx.all λe'=>!((aE l []).getD e.1 0).testBit e'.1 || n.testBit e'.2)
def gJ (l:List Oper) (E:List Nat) (i:Nat) (ns:List Nat):Bool:=(List.range (2 ^ E.length)).all λn=>!ym l E i n || ns.any λk=>Nat.beq k n
section run
variable {P:uF} {f:Ctx} {N:Nat} {S:Start} {Q:EV->St->Prop} {k:List Item}
def oE (aR:List St):List Nat->(St->Prop)->Prop
 | [],_=>True
 | n::r,p=>(∃ s,aR[n]?=some s/\p s)/\oE aR r p
def ka (aR:List St) (d:Nat):List Nat->(St->St->Prop)->Prop
 | [],_=>True
 | n::r,p=>(∃ s s',aR[n]?=some s/\aR[n+d]?=some s'/\p s s')/\ka aR d r p
def vU (P:uF) (N base:Nat) (l:List Oper) (E:List Nat) (aR:List St) (i:Nat) (o:Oper) (env:Env) (x:EV):Prop :=
  aK N o.dst=true/\∃ ns,gJ l E i ns=true /\
  (((!E.any λe=>Nat.beq e i)=true/\((∀ s,dp P l env s o x)∨oE aR ns λs=>dp P l env s o x)) ∨
   (∃ m,E[m]?=some i/\o.guard=none/\ka aR (2 ^ m) ns λs s'=>ib P base env s o x s'∨x=.d .any/\kQ P base env s o s'))
def gK (P:uF) (N base:Nat) (l:List Oper) (E:List Nat) (aR:List St):Nat->List Oper->List EV->Env->Prop
 | _,[],[],_=>True
 | i,o::os,x::xs,env=>vU P N base l E aR i o (bp l o env) x/\gK P N base l E aR (i+1) os xs (env.put o.dst x)
 | _,_,_,_=>False
theorem gK.length {base:Nat} {l:O Oper} {E:O Nat} {aR:O St}:∀ {i:Nat} {os:O Oper} {xs:O EV} {env:Env},gK P N base l E aR i os xs env->xs.length=os.length
 | _,[],[],_,_=>rfl
 | _,o::os,x::xs,env,h=>by simp[gK.length h.2]
 | _,[],x::xs,_,h=>h.elim
 | _,o::os,[],_,h=>h.elim
def gf (P:uF) (f:Ctx) (N:Nat) (S:Start) (Q:EV->St->Prop) (l:List Oper) (p:Nat) (E:List Nat) (aR:List St) (i:Nat) (os:List Oper) (k:List Item) (env:Env):Prop :=
 ∃ xs ga,aR[2 ^ E.length-1]?=some ga/\gK P N S.base l E aR i os xs env/\ba P f N S Q l (l.drop p) k (aU env os xs) ga
variable {l:List Oper} {p:Nat} {E:List Nat} {aR:List St} {i:Nat} {os:List Oper} {env:Env} {st:St} {d:Option Tmp} {op:Op} {ty:uE} {pos:String} {after:uD Edge} {x:EV}
theorem gf.s (h:∀ s,kR P (bp l ⟨d,op,ty,pos,after,none⟩ env) s ⟨d,op,ty,pos,after,none⟩ x) (aN:(!E.any λe=>Nat.beq e i)=true) (hd:aK N d=true)
  (hk:gf P f N S Q l p E aR (i+1) os k (env.put d x)):gf P f N S Q l p E aR i (⟨d,op,ty,pos,after,none⟩::os) k env:=by
 obtain ⟨xs,ga,h0,h1,h2⟩:=hk
 refine ⟨x::xs,ga,h0,⟨⟨hd,List.range (2 ^ E.length),?_,.inl ⟨aN,.inl λs=>.inl ⟨rfl,(h s).g⟩⟩⟩,h1⟩,h2⟩
 unfold gJ
 rw[zas]
 intro n hn
 simp only[zbs]
 exact .inr (List.any_eq_true.2 ⟨n,hn,zbv n⟩)
theorem gf.g (ns:O Nat) (h:oE aR ns λs=>jP P (bp l ⟨d,op,ty,pos,after,none⟩ env) s ⟨d,op,ty,pos,after,none⟩ x) (aN:(!E.any λe=>Nat.beq e i)=true) (hb:gJ l E i ns=true) (hd:aK N d=true)
  (hk:gf P f N S Q l p E aR (i+1) os k (env.put d x)):gf P f N S Q l p E aR i (⟨d,op,ty,pos,after,none⟩::os) k env:=by
 obtain ⟨xs,ga,h0,h1,h2⟩:=hk
 refine ⟨x::xs,ga,h0,⟨⟨hd,ns,hb,.inl ⟨aN,.inr ?_⟩⟩,h1⟩,h2⟩
 have mk:∀ {ns:O Nat},(oE aR ns λs=>jP P (bp l ⟨d,op,ty,pos,after,none⟩ env) s ⟨d,op,ty,pos,after,none⟩ x)->oE aR ns λs=>dp P l (bp l ⟨d,op,ty,pos,after,none⟩ env) s ⟨d,op,ty,pos,after,none⟩ x:=by
  intro ns
  induction ns with
  | nil=>exact λ_=>trivial
  | cons a r ih=>exact λ⟨⟨s,a1,a2⟩,b⟩=>⟨⟨s,a1,.inl ⟨rfl,a2⟩⟩,ih b⟩
 exact mk h
theorem gf.v (m:Nat) (ns:O Nat) (h:ka aR (2 ^ m) ns λs s'=>ib P S.base (bp l ⟨d,op,ty,pos,after,none⟩ env) s ⟨d,op,ty,pos,after,none⟩ x s') (hE:E[m]?=some i) (hb:gJ l E i ns=true) (hd:aK N d=true)
  (hk:gf P f N S Q l p E aR (i+1) os k (env.put d x)):gf P f N S Q l p E aR i (⟨d,op,ty,pos,after,none⟩::os) k env:=by
 obtain ⟨xs,ga,h0,h3,h4⟩:=hk
 refine ⟨x::xs,ga,h0,⟨⟨hd,ns,hb,.inr ⟨m,hE,rfl,?_⟩⟩,h3⟩,h4⟩
 have mk:∀ {ns:O Nat},(ka aR (2 ^ m) ns λs s'=>ib P S.base (bp l ⟨d,op,ty,pos,after,none⟩ env) s ⟨d,op,ty,pos,after,none⟩ x s') ->
   ka aR (2 ^ m) ns λs s'=>ib P S.base (bp l ⟨d,op,ty,pos,after,none⟩ env) s ⟨d,op,ty,pos,after,none⟩ x s'∨x=.d .any/\kQ P S.base (bp l ⟨d,op,ty,pos,after,none⟩ env) s ⟨d,op,ty,pos,after,none⟩ s':=by
  intro ns
  induction ns with
  | nil=>exact λ_=>trivial
  | cons a r ih=>exact λ⟨⟨s,s',a1,a2,a3⟩,b⟩=>⟨⟨s,s',a1,a2,.inl a3⟩,ih b⟩
 exact mk h
theorem gf.u (m:Nat) (ns:O Nat) (h:ka aR (2 ^ m) ns λs s'=>kQ P S.base (bp l ⟨d,op,ty,pos,after,none⟩ env) s ⟨d,op,ty,pos,after,none⟩ s') (hE:E[m]?=some i) (hb:gJ l E i ns=true) (hd:aK N d=true)
  (hk:gf P f N S Q l p E aR (i+1) os k (env.put d (.d .any))):gf P f N S Q l p E aR i (⟨d,op,ty,pos,after,none⟩::os) k env:=by
 obtain ⟨xs,ga,h0,h3,h4⟩:=hk
 refine ⟨.d .any::xs,ga,h0,⟨⟨hd,ns,hb,.inr ⟨m,hE,rfl,?_⟩⟩,h3⟩,h4⟩
 have mk:∀ {ns:O Nat},(ka aR (2 ^ m) ns λs s'=>kQ P S.base (bp l ⟨d,op,ty,pos,after,none⟩ env) s ⟨d,op,ty,pos,after,none⟩ s') ->
   ka aR (2 ^ m) ns λs s'=>ib P S.base (bp l ⟨d,op,ty,pos,after,none⟩ env) s ⟨d,op,ty,pos,after,none⟩ (.d .any) s'∨EV.d .any=.d .any/\kQ P S.base (bp l ⟨d,op,ty,pos,after,none⟩ env) s ⟨d,op,ty,pos,after,none⟩ s':=by
  intro ns
  induction ns with
  | nil=>exact λ_=>trivial
  | cons a r ih=>exact λ⟨⟨s,s',a1,a2,a3⟩,b⟩=>⟨⟨s,s',a1,a2,.inr ⟨rfl,a3⟩⟩,ih b⟩
 exact mk h
end run
def kb (P:uF) (t:uE) (n:Nat):Bool:=match P.info? t with
 | some i=>Nat.beq i.size n
 | none=>false
def gL (P:uF) (g:uE->Option (List FK)):Nat->List Field->Option (List FK)
 | _,[]=>some []
 | n,f::fs=>match Nat.beq f.offset n,decide (f.name ≠ "_"),g f.type with
  | true,true,some k=>match kb P f.type k.length,gL P g (n+k.length) fs with
   | true,some ks=>some (k++ks)
   | _,_=>none
  | _,_,_=>none
def eP (P:uF):Nat->uE->Option (List FK)
 | 0,_=>none
 | d+1,t=>match P.underlying t with
  | some (.struct fs)=>match P.stoodInHeld t with
   | true=>none
   | false=>gL P (eP P d) 0 fs.toList
  | some (.array n e)=>match d,il (P.underlying e),kb P e 1 with
   | d'+1,some k,true=>some (List.replicate n k)
   | _,_,_=>none
  | u=>match il u with
   | some k=>some [k]
   | none=>none
def im:Option TypeDesc->Bool
 | some (.struct _)=>true
 | some (.array _ _)=>true
 | _=>false
def fu (P:uF) (t:uE) (xs:List uB):uB:=match im (P.underlying t) with
 | true=>.agg xs.toArray
 | false=>xs.headD undef
theorem b9:∀ {ks:O FK} {xs:O uB},fitAll ks xs=true->xs.length=ks.length
 | [],[],_=>rfl
 | [],_::_,h=>by cases h
 | _::_,[],h=>by cases h
 | k::ks,x::xs,h=>by simp only[fitAll,zaf] at h;simp[b9 h.2]
theorem cZ:∀ (ks ls:O FK) (xs:O uB),fitAll (ks++ls) xs=true->fitAll ks (xs.take ks.length)=true/\fitAll ls (xs.drop ks.length)=true
 | [],ls,xs,h=>⟨by simp[fitAll],by simpa using h⟩
 | k::ks,ls,[],h=>by cases h
 | k::ks,ls,x::xs,h=>by
  simp only[List.cons_append,fitAll,zaf] at h
  obtain ⟨h1,h2⟩:=cZ ks ls xs h.2
  exact ⟨by simp[fitAll,h.1,h1],by simpa using h2⟩
theorem gM:∀ (n:Nat) (xs ys:O uB),xs.length=ys.length->b8 xs ys=(b8 (xs.take n) (ys.take n) && b8 (xs.drop n) (ys.drop n))
 | 0,xs,ys,_=>by simp[b8]
 | n+1,[],[],_=>by simp[b8]
 | n+1,[],_::_,h=>by cases h
 | n+1,_::_,[],h=>by cases h
 | n+1,x::xs,y::ys,h=>by
  simp only[List.take_succ_cons,List.drop_succ_cons,b8]
  rw[gM n xs ys (by simpa using h),Bool.and_assoc]
section eq
variable {P:uF}
theorem eQ (t:uE) (w:uC) (u:TypeDesc) (hu:P.underlying t=some u):(isAgg t).run P w=.ok (im (some u)) w:=by
 unfold isAgg
 simp only[Sem.run_bind,run_underlying hu,Result.andThen_ok]
 cases u<;>rfl
theorem kf {t:uE} {n:Nat} (h:kb P t n=true):∃ i,P.info? t=some i/\i.size=n:=by
 unfold kb at h
 split at h
 ·rename_i i hi;exact ⟨i,hi,zae h⟩
 ·cases h
theorem iG {d:Nat} {t:uE} {ks:O FK} (h:eP P d t=some ks) (ha:im (P.underlying t)=false):∃ k,il (P.underlying t)=some k/\ks=[k]:=by
 cases d with
 | zero=>cases h
 | succ d =>
  unfold eP at h
  split at h
  ·rename_i hu;rw[hu] at ha;cases ha
  ·rename_i hu;rw[hu] at ha;cases ha
  ·split at h
   ·rename_i k hk;cases h;exact ⟨k,hk,rfl⟩
   ·cases h
theorem iH {d:Nat} {t:uE} {ks:List FK} (h:eP P d t=some ks) {X:uD uB} {off:Nat} {xs:List uB} (hl:xs.length=ks.length) (hs:kb P t ks.length=true)
  (hX:∀ (j:Nat) v,xs[j]?=some v->X[off+j]?=some v) (w:uC):(part t X off).run P w=.ok (fu P t xs) w:=by
 obtain ⟨i,hi,dh⟩:=kf hs
 cases ha:im (P.underlying t) with
 | false =>
  obtain ⟨k,hk,rfl⟩:=iG h ha
  match xs,hl with
  | [v],_ =>
   have:=cK hk (cs:=X) (off:=off) (v:=v) (by simpa using hX 0 v rfl) w
   simpa [fu,ha] using this
 | true =>
  cases hu:P.underlying t with
  | none=>rw[hu] at ha;cases ha
  | some u =>
   have hA:=eQ (P:=P) t w u hu
   rw[hu] at ha
   rw[ha] at hA
   have nq:fu P t xs=.agg xs.toArray:=by unfold fu;rw[hu,ha]
   have hx:X.extract off (off+ks.length)=xs.toArray:=by
    apply zct
    apply List.ext_getElem?
    intro j
    by_cases hj:j<xs.length
    ·have h1:=hX j _ (zad hj)
     have h2:=(zaz.1 h1).1
     rw[zcc,Array.getElem?_extract]
     show _=xs[j]?
     rw[zad hj,zam (by omega)]
     exact h1
    ·rw[zcc,zcw (by simp;omega),zbn (by simp;omega)]
   simp only[part,Sem.run_bind,hA,Result.andThen_ok,zcf,aF hi,dh,hx,nq,Sem.run_pure]
theorem iI {d:Nat} (n:Nat) (w:uC) (ih:∀ (t:uE) (ks:List FK) (xs ys:List uB),eP P d t=some ks->fitAll ks xs=true->fitAll ks ys=true->(Op.equalIn (n+d) t (fu P t xs) (fu P t ys)).run P w=.ok (b8 xs ys) w) :
  ∀ (fs:List Field) (k:Nat) (ks:List FK) (xs ys:List uB) (X Y:uD uB),gL P (eP P d) k fs=some ks->fitAll ks xs=true->fitAll ks ys=true ->
  (∀ (j:Nat) v,xs[j]?=some v->X[k+j]?=some v)->(∀ (j:Nat) v,ys[j]?=some v->Y[k+j]?=some v)->(Op.eqFields (n+d) X Y fs).run P w=.ok (b8 xs ys) w
 | [],k,ks,xs,ys,X,Y,h,hx,hy,_,_=>by
  simp only[gL,Option.some.injEq] at h
  subst h
  match xs,ys with
  | [],[]=>rfl
  | _::_,_=>cases hx
  | [],_::_=>cases hy
 | f::fs,k,ks,xs,ys,X,Y,h,hx,hy,hX,hY=>by
  unfold gL at h
  split at h
  ·rename_i kk h1 h2 h3
   split at h
   ·rename_i vO h4 h5
    simp only[Option.some.injEq] at h
    subst h
    have ho:=zae h1
    have j7:f.name ≠ "_" := zaw h2
    obtain ⟨a1,a2⟩:=cZ _ _ _ hx
    obtain ⟨b1,b2⟩:=cZ _ _ _ hy
    have Bt:=b9 hx
    have Bu:=b9 hy
    have px:=iH h3 (X:=X) (off:=f.offset) (b9 a1) h4 (λj v hv=>by
     rw[zai] at hv
     split at hv
     ·rw[ho];exact hX j v hv
     ·cases hv) w
    have py:=iH h3 (X:=Y) (off:=f.offset) (b9 b1) h4 (λj v hv=>by
     rw[zai] at hv
     split at hv
     ·rw[ho];exact hY j v hv
     ·cases hv) w
    have pe:=ih _ _ _ _ h3 a1 b1
    have rest:=iI n w ih fs (k+kk.length) vO _ _ X Y h5 a2 b2 (λj v hv=>by rw[zbp] at hv;have:=hX _ v hv;rwa [show k+kk.length+j=k+(kk.length+j) by omega])
     (λj v hv=>by rw[zbp] at hv;have:=hY _ v hv;rwa [show k+kk.length+j=k+(kk.length+j) by omega])
    rw[gM kk.length xs ys (by omega)]
    simp only[Op.eqFields,zam j7,Sem.run_bind,px,py,pe,Result.andThen_ok,Sem.run_ite]
    cases b8 (xs.take kk.length) (ys.take kk.length)
    ·rfl
    ·simpa using rest
   ·cases h
  ·cases h
theorem iJ {e:uE} {k:FK} (hk:il (P.underlying e)=some k) (hs:P.cellsOf e=1) (n:Nat) (w:uC) (X Y:uD uB) :
  ∀ (m i:Nat) (xs ys:List uB),fitAll (List.replicate m k) xs=true->fitAll (List.replicate m k) ys=true ->
  (∀ (j:Nat) v,xs[j]?=some v->X[i+j]?=some v)->(∀ (j:Nat) v,ys[j]?=some v->Y[i+j]?=some v) ->
  (Op.eqItems (n+1) e (P.cellsOf e) X Y (List.range' i m)).run P w=.ok (b8 xs ys) w
 | 0,i,xs,ys,hx,hy,_,_=>by
  match xs,ys with
  | [],[]=>rfl
  | _::_,_=>cases hx
  | [],_::_=>cases hy
 | m+1,i,[],ys,hx,_,_,_=>by cases hx
 | m+1,i,x::xs,[],_,hy,_,_=>by cases hy
 | m+1,i,x::xs,y::ys,hx,hy,hX,hY=>by
  simp only[List.replicate_succ,fitAll,zaf] at hx hy
  have px:=cK hk (cs:=X) (off:=i) (by simpa using hX 0 x rfl) w
  have py:=cK hk (cs:=Y) (off:=i) (by simpa using hY 0 y rfl) w
  have pe:=dt hk hx.1 hy.1 n w
  have ih:=iJ hk hs n w X Y m (i+1) xs ys hx.2 hy.2 (λj v hv=>by have:=hX (j+1) v (by simpa using hv);rwa [show i+1+j=i+(j+1) by omega]) (λj v hv=>by have:=hY (j+1) v (by simpa using hv);rwa [show i+1+j=i+(j+1) by omega])
  rw[hs] at ih ⊢
  simp only[List.range'_succ,Op.eqItems,Sem.run_bind,Nat.mul_one,px,py,pe,Result.andThen_ok,Sem.run_ite,b8]
  cases qK x y
  ·rfl
  ·simpa using ih
theorem kg (n:Nat) (w:uC):∀ (d:Nat) (t:uE) (ks:List FK) (xs ys:List uB),eP P d t=some ks->fitAll ks xs=true->fitAll ks ys=true->(Op.equalIn (n+d) t (fu P t xs) (fu P t ys)).run P w=.ok (b8 xs ys) w
 | 0,t,ks,xs,ys,h,_,_=>by cases h
 | d+1,t,ks,xs,ys,h,hx,hy=>by
  cases ha:im (P.underlying t) with
  | false =>
   obtain ⟨k,hk,rfl⟩:=iG h ha
   match xs,ys,hx,hy with
   | [x],[y],hx,hy =>
    simp only[fitAll,Bool.and_true] at hx hy
    have:=dt hk hx hy (n+d) w
    simp only[fu,ha,b8,List.headD_cons,Bool.and_true]
    exact this
   | [],_,hx,_=>cases hx
   | _::_::_,_,hx,_=>simp[fitAll] at hx
   | [x],[],_,hy=>cases hy
   | [x],_::_::_,_,hy=>simp[fitAll] at hy
  | true =>
   have vV:∀ zs,fu P t zs=.agg zs.toArray:=λzs=>by unfold fu;rw[ha]
   rw[vV,vV]
   unfold eP at h
   cases hu:P.underlying t with
   | none=>rw[hu] at ha;cases ha
   | some u =>
    rw[hu] at h ha
    cases u with
    | struct fs =>
     simp only at h
     split at h
     ·cases h
     ·rename_i gC
      have vP:P.fieldsOf t=fs:=by simp[Program.fieldsOf,hu]
      rw[show n+(d+1)=(n+d)+1 by omega,run_equalIn_struct w (n+d) t _ _ (by rw[vP];exact hu) gC,vP]
      exact iI n w (kg n w d) fs.toList 0 ks xs ys _ _ h hx hy (λj v hv=>by simpa using hv) (λj v hv=>by simpa using hv)
    | array m e =>
     simp only at h
     split at h
     ·rename_i d' k hk hs
      cases h
      obtain ⟨i,hi,dh⟩:=kf hs
      have hc:P.cellsOf e=1:=by simp[Program.cellsOf,hi,dh]
      rw[show n+(d'+1+1)=(n+d'+1)+1 by omega,run_equalIn_array w (n+d'+1) _ _ hu hi,List.range_eq_range']
      exact iJ hk hc (n+d') w _ _ m 0 xs ys hx hy (λj v hv=>by simpa using hv) (λj v hv=>by simpa using hv)
     ·cases h
    | _=>cases ha
end eq
def kh (P:uF) (t:uE):Option (List FK):=match P.eqGuardType P.depth t,im (P.underlying t) with
 | false,true=>eP P 4 t
 | _,_=>none
section rules
variable {P:uF} {base:Nat} {env:Env} {st:St} {d:Option Tmp} {ty:uE} {pos:String} {after:uD Edge} {gd:Option (Nat×Bool)} {t t2:uE} {x y:uG}
variable {ks:List FK} {cs ds:List D} {xs ys:List uB}
theorem oF (h:kh P t=some ks) (hx:fitAll ks xs=true) (hy:fitAll ks ys=true) (w:uC) (op:BinOp) (x y:uG) :
  (eqGuard op t x y (.agg xs.toArray) (.agg ys.toArray)).run P w=.ok () w/\(Op.equalIn 10000 t (.agg xs.toArray) (.agg ys.toArray)).run P w=.ok (b8 xs ys) w:=by
 unfold kh at h
 split at h
 ·rename_i hg ha
  refine ⟨run_eqGuard_agg w op t x y _ _ hg,?_⟩
  have:=kg (P:=P) 9996 w 4 t ks xs ys h hx hy
  have vV:∀ zs,fu P t zs=.agg zs.toArray:=λzs=>by unfold fu;rw[ha]
  rw[vV,vV] at this
  exact this
 ·cases h
end rules
def tD (t:Nat):List Nat->Bool
 | []=>false
 | a::l=>match Nat.beq t a with
  | true=>true
  | false=>tD t l
def tE {β:Type} (t:Nat):List (Nat×β)->Option β
 | []=>none
 | (a,y)::l=>match Nat.beq t a with
  | true=>some y
  | false=>tE t l
def qP:List Prop->Prop
 | []=>True
 | [p]=>p
 | p::q::l=>p/\qP (q::l)
theorem qP.c {p:Prop} {l:O Prop} (h:qP (p::l)):p/\qP l:=by
 cases l with
 | nil=>exact ⟨h,trivial⟩
 | cons q l=>exact h
def Al {α:Type} (p:α->Prop):List α->Prop
 | []=>True
 | a::l=>p a/\Al p l
def cg {α β:Type _}:List α->(List α->β)->β
 | [],k=>k []
 | a::l,k=>cg l λl'=>k (a::l')
def ki {β:Type _} (env:Env) (d:Option Tmp) (x:EV) (k:Env->β):β:=match d with
 | some d=>k ((d,x)::env)
 | none=>k env
structure FT where
 one:List Nat
 agg:List (Nat×Nat)
 sz:List (Nat×Nat)
 fo:List (Nat×List (Nat×Nat))
 zr:List (Nat×List D)
def FT.Ok (P:uF) (T:FT):Prop :=
 Al (λt=>(P.underlying t).map mW=some true) T.one/\Al (λx=>(P.underlying x.1).map mW=some false/\(P.info? x.1).map (·.size)=some x.2) T.agg/\Al (λx=>(P.info? x.1).map (·.size)=some x.2) T.sz /\
 Al (λx=>Al (λy=>di P x.1 y.1=some y.2) x.2) T.fo/\Al (λx=>∃ z,(P.info? x.1).bind (·.zero)=some z/\kU (.d (cv z))=some (x.2.map EV.d)) T.zr
def zx:Option D->Option EV
 | some x=>some (.d x)
 | none=>none
def yn:IntKind->Bool
 | .u8=>true
 | _=>false
def yo (op:BinOp) (a b:Int):Option Bool:=match op with
 | .lss=>some (decide (a<b))
 | .leq=>some (decide (a<=b))
 | .gtr=>some (decide (a > b))
 | .geq=>some (decide (a>=b))
 | .eql=>some (a==b)
 | .neq=>some (a != b)
 | _=>none
def yp (op:BinOp) (a b:List uA):Option Bool:=match op with
 | .eql=>some (a==b)
 | .neq=>some (a != b)
 | _=>none
def zy:Option Bool->Option D
 | some b=>some (.ex (.bool b))
 | none=>none
def yq (op:BinOp) (x y:D):Option D:=match x with
 | .ex (.int k a)=>match yn k with
  | true=>none
  | false=>match y with
   | .ex (.int k' b)=>match decide (k=k') with
    | true=>zy (yo op a b)
    | false=>none
   | _=>none
 | .ex (.string ⟨⟨a⟩⟩)=>match y with
  | .ex (.string ⟨⟨b⟩⟩)=>zy (yp op a b)
  | _=>none
 | _=>none
def vW (n:Nat) (cs:List EV) (off:Nat):Option EV:=match Nat.ble (off+n) cs.length with
 | true=>match vA ((cs.drop off).take n) with
  | some ds=>some (.d (.agg ds))
  | none=>none
 | false=>none
def vX (n:Nat) (cs:List D):Option EV:=match Nat.beq cs.length n with
 | true=>some (.d (.agg cs))
 | false=>match Nat.ble n cs.length with
  | true=>some (.d (.agg (cs.take n)))
  | false=>none
def rowOf (st:St) (o:Nat):Option (uE×List EV):=match st.ak[o]? with
 | some (.row ty cs)=>some (ty,cs)
 | _=>none
def qv (T:FT) (env:Env) (st:St):Op->Option EV
 | .move x=>bX env x
 | .assign x=>bX env x
 | .nilCheck x=>match bX env x with
  | some (.ref o f)=>some (.ref o f)
  | _=>none
 | .extract x i=>match bX env x with
  | some (.d (.fX cs))=>zx cs[i]?
  | some (.fX cs)=>cs[i]?
  | _=>none
 | .binOp op t x y t2=>match bX env x with
  | some (.d a)=>match bX env y with
   | some (.d b)=>zx (yq op a b)
   | _=>none
  | _=>none
 | .unOp .not t x=>match bX env x with
  | some (.d (.ex (.bool a)))=>some (.d (.ex (.bool (!a))))
  | _=>none
 | .fieldAddr s x f=>match tE s T.fo with
  | some fs=>match tE f fs with
   | some off=>match bX env x with
    | some (.ref o o0)=>some (.ref o (o0+off))
    | some (.d (.ro cs))=>some (.d (.ro (cs.drop off)))
    | some (.vp t k i o)=>some (.vp t k i (o+off))
    | _=>none
   | none=>none
  | none=>none
 | .load t x=>match bX env x with
  | some (.ref o off)=>match rowOf st o with
   | some (_,cs)=>match tD t T.one with
    | true=>cs[off]?
    | false=>match tE t T.agg with
     | some n=>vW n cs off
     | none=>none
   | none=>none
  | some (.d (.ro cs))=>match tD t T.one with
   | true=>match cs with
    | c::_=>some (.d c)
    | []=>none
   | false=>match tE t T.agg with
    | some n=>vX n cs
    | none=>none
  | _=>none
 | _=>none
def pk (env:Env):Op->Option (EV×Prop)
 | .pick x y z=>match bX env x with
  | some (.d (.ex (.bool a)))=>match bX env y with
   | some (.gd c (.d (.ex (.bool v))))=>match bX env z with
    | some (.d (.ex (.bool false)))=>some (.d (.ex (.bool (a && v))),c=a)
    | _=>none
   | some (.d (.ex (.bool true)))=>match bX env z with
    | some (.gd c (.d (.ex (.bool v))))=>some (.d (.ex (.bool (a || v))),c=(!a))
    | _=>none
   | _=>none
  | _=>none
 | _=>none
inductive Hint where
 | g (x:EV)
 | v (x:EV) (st:St)
 | u (st:St)
 | t (x:EV) (tk:Nat) (tl:bU)
 | n (x:EV) (tl:bU)
 | r (o:Nat)
 | p (n:Nat)
  | f (k:Nat) (x:EV)
 | w (k:Nat) (st:St)
def forced (n:Nat):List Hint->Option (EV×List Hint)
 | .f k x::hs=>match Nat.beq k n with
  | true=>some (x,hs)
  | false=>none
 | _=>none
def qQ (n:Nat):List Hint->Option (St×List Hint)
 | .w k s::hs=>match Nat.beq k n with
  | true=>some (s,hs)
  | false=>none
 | _=>none
inductive Cf where
 | run (k:List Item)
 | ops (l rest:List Oper) (k:List Item)
 | draw (l:List Oper) (p:Nat) (os:List Oper) (k:List Item)
structure Out where
 cf:Cf
 env:Env
 st:St
 ps:List Prop
def xn {β:Type _} (b:Bool) (env:Env):List Tmp->List Prop->(Env->List Prop->β)->β
 | [],ps,k=>k [] ps
 | t::ts,ps,k=>match lookup t env with
  | some (.gd c y)=>xn b env ts ((c=b)::ps) λe ps=>k ((t,y)::e) ps
  | some x=>xn b env ts ps λe ps=>k ((t,x)::e) ps
  | none=>xn b env ts ps k
def stepG (P:uF) (T:FT) (n:Nat) (st:St) (o:Oper) (b:Bool) (hs:List Hint) (F:Option Out) (K:EV->List Hint->List Prop->Option Out) (e:Env) (ps:List Prop):Option Out :=
 match forced n hs with
 | some (x,hs)=>K (.gd b x) hs ((b=true->jP P e st o x)::ps)
 | none=>match qv T e st o.op with
  | some x=>K (.gd b x) hs ps
  | none=>match pk e o.op with
   | some (x,p)=>K (.gd b x) hs (p::ps)
   | none=>match hs with
    | .g x::hs=>K (.gd b x) hs ((b=true->jP P e st o x)::ps)
    | _=>F
def sq (P:uF) (T:FT) (n:Nat) (l:List Oper) (e:Env) (st:St) (o:Oper) (hs:List Hint) (ps:List Prop) (F:Option Out) (K:EV->List Hint->List Prop->Option Out):Option Out :=
 match o.guard with
 | none=>match forced n hs with
  | some (x,hs)=>K x hs (jP P e st o x::ps)
  | none=>match qv T e st o.op with
   | some x=>K x hs ps
   | none=>match pk e o.op with
    | some (x,p)=>K x hs (p::ps)
    | none=>match hs with
     | .g x::hs=>K x hs (jP P e st o x::ps)
     | _=>F
 | some (j,want)=>match (l[j]?).bind (·.dst) with
  | some t=>match lookup t e with
   | some c=>match iA c want with
    | some b=>xn b e (jf o.op) ps (stepG P T n st o b hs F K)
    | none=>F
   | none=>F
  | none=>F
def vY (P:uF) (base:Nat) (T:FT) (e:Env) (st:St) (o:Oper) (hs:List Hint) (ps:List Prop) (K:EV->St->List Hint->List Prop->Option Out):Option Out :=
  match o.guard with
  | some _=>none
  | none=>match st with
   | ⟨ob,tl⟩=>match hs with
    | .r n::hs=>match Nat.beq n ob.length with
      | false=>none
      | true=>match o.op with
        | .box t x=>match bX e x with
          | some y=>match kU y with
            | some cs=>cg cs λcs=>cg (ob++[.row t cs]) λos=>K (.ref n 0) ⟨os,tl⟩ hs ps
            | none=>none
          | none=>none
        | .alloc t=>match tE t T.zr with
          | some zs=>cg (zs.map EV.d) λcs=>cg (ob++[.row t cs]) λos=>K (.ref n 0) ⟨os,tl⟩ hs ps
          | none=>none
        | _=>none
    | .v x aI::hs=>K x aI hs (ib P base e st o x aI::ps)
    | .u aI::hs=>K (.d .any) aI hs (kQ P base e st o aI::ps)
    | .t x tk y::hs=>cg (tl.set tk y) λts=>K x ⟨ob,ts⟩ hs (ib P base e st o x (st.ah tk y)::ps)
    | .n x y::hs=>cg (tl++[y]) λts=>K x ⟨ob,ts⟩ hs (ib P base e st o x (st.tok y)::ps)
    | _=>none
def vZ (P:uF) (base:Nat) (T:FT) (n:Nat) (e:Env) (st:St) (o:Oper) (hs:List Hint) (ps:List Prop) (F:Option Out) (K:St->List Hint->List Prop->Option Out):Option Out :=
  match o.guard with
  | some _=>F
  | none=>match qQ n hs with
   | some (aI,hs)=>K aI hs (kQ P base e st o aI::ps)
   | none=>match o.op with
    | .store t x y=>match bX e x with
      | some (.ref ob off)=>match rowOf st ob with
        | some (ty,cs)=>match bX e y with
          | some y=>match kU y with
            | some new=>match tE t T.sz with
              | some n=>match Nat.beq n new.length with
                | true=>match Nat.ble (off+new.length) cs.length with
                  | true=>match st with
                    | ⟨os,tl⟩=>cg (putCells cs off new) λcs=>cg (os.set ob (.row ty cs)) λos=>K ⟨os,tl⟩ hs ps
                  | false=>F
                | false=>F
              | none=>F
            | none=>F
          | none=>F
        | none=>F
      | _=>F
    | _=>F
def Ax (hs:List Hint) (ps:List Prop):List Item->(Cf->List Hint->List Prop->Option Out)->Option Out
 | .code (.seq x y)::k,K=>K (.run (.code x::.code y::k)) hs ps
 | .code .skip::k,K=>K (.run k) hs ps
 | .inBlock id::k,K=>K (.run k) hs ps
 | .code (.block id c)::k,K=>K (.run (.code c::.inBlock id::k)) hs ps
 | .code (.exit id)::k,K=>match exitTo id k with
  | some k'=>K (.run k') hs ps
  | none=>none
 | .code (.region id ⟨l⟩ false)::k,K=>K (.ops l l k) hs ps
 | .code (.region id ⟨l⟩ true)::k,K=>match hs with
  | .p p::hs=>cg (l.take p) λos=>K (.draw l p os k) hs ((fM l p=true)::ps)
  | _=>none
 | _,_=>none
def okO (N:Nat) (o:Oper):Bool:=match o.dst with
 | some d=>Nat.ble (d+1) N
 | none=>match o.guard with
  | none=>true
  | some _=>false
def go (P:uF) (base:Nat) (T:FT) (N:Nat):Nat->Cf->Env->St->List Hint->List Prop->Option Out
 | 0,cf,env,st,hs,ps=>match hs with
  | []=>some ⟨cf,env,st,ps⟩
  | _=>none
 | n+1,cf,env,st,hs,ps=>match cf with
  | .run k=>Ax hs ps k λcf hs ps=>go P base T N n cf env st hs ps
  | .ops l rest k=>match rest with
   | []=>go P base T N n (.run k) env st hs ps
   | o::rest=>match okO N o with
    | true=>vZ P base T (n+1) env st o hs ps
     (sq P T (n+1) l env st o hs ps
      (vY P base T env st o hs ps λx st hs ps=>ki env o.dst x λenv=>go P base T N n (.ops l rest k) env st hs ps)
      λx hs ps=>ki env o.dst x λenv=>go P base T N n (.ops l rest k) env st hs ps)
     λst hs ps=>ki env o.dst (.d .any) λenv=>go P base T N n (.ops l rest k) env st hs ps
    | false=>none
  | .draw l p os k=>match os with
   | []=>cg (l.drop p) λr=>go P base T N n (.ops l r k) env st hs ps
   | o::os=>match okO N o with
    | true=>sq P T (n+1) l (bp l o env) st o hs ps none λx hs ps=>ki env o.dst x λenv=>go P base T N n (.draw l p os k) env st hs ps
    | false=>none
section sound
variable {P:uF} {f:Ctx} {N:Nat} {S:Start} {Q:EV->St->Prop} {T:FT}
theorem ba.any {ops rest:O Oper} {k:O Item} {env:Env} {st:St} {o:Oper} {x:EV} (h:dp P ops env st o x) (hd:aK N o.dst=true) (hs:o.guard≠none->o.dst≠none) (hk:ba P f N S Q ops rest k (env.put o.dst x) st) :
  ba P f N S Q ops (o::rest) k env st:=by
 obtain ⟨dst,op,ty,pos,after,guard⟩:=o
 rcases h with ⟨hg,h⟩|⟨j,want,t,c,b,y,ay,hg,hj,hl,hc,rfl,hE,h⟩
 ·have hg:guard=none:=hg
  subst hg
  exact .g h hd hk
 ·have hg:guard=_:=hg
  subst hg
  cases dst with
  | none=>exact absurd rfl (hs (by simp))
  | some d=>exact .ta hj hl hc hE hd h hk
theorem ik.any {l os:O Oper} {p:Nat} {k:O Item} {env:Env} {st:St} {o:Oper} {x:EV} (h:dp P l (bp l o env) st o x) (hd:aK N o.dst=true) (hk:ik P f N S Q l p os k (env.put o.dst x) st) :
  ik P f N S Q l p (o::os) k env st:=by
 obtain ⟨xs,h1,h2⟩:=hk
 exact ⟨x::xs,⟨hd,h,h1⟩,h2⟩
def oG (env:Env):List (Nat×EV)->Option Env
 | []=>some []
 | (i,_)::l=>match lookup i env with
  | some x=>match oG env l with
   | some r=>some ((i,x)::r)
   | none=>none
  | none=>none
theorem gN {env:Env}:∀ {l:O (Nat×EV)} {ay:Env},oG env l=some ay->b6 env ay
 | [],ay,h=>by cases h;trivial
 | (i,y)::l,ay,h=>by
  unfold oG at h
  split at h
  ·rename_i x hx
   split at h
   ·rename_i r hr;cases h;exact .cons hx (.qB _) (gN hr)
   ·cases h
  ·cases h
section back
variable {todo:List Item} {env ay:Env} {st aI s0:St}
theorem aQ.z (h:aQ P f N S Q todo ay aI) (hs:st=aI) (hE:oG env ay=some ay):aQ P f N S Q todo env st:=hs▸.sub (gN hE) h
theorem aQ.y (h:aQ P f N S Q todo ay aI) (hs:st=aI) (hE:b6 env ay):aQ P f N S Q todo env st:=hs▸.sub hE h
theorem aQ.t (n m:Nat) (h:aQ P f N S Q todo ay aI) (hE:oG env ay=some ay) (ho:st.ak.take n=aI.ak) (ht:st.aa.take m=aI.aa) (hn:(Nat.ble n st.ak.length && Nat.ble m st.aa.length)=true)
  (iE:(j6 n m ay && aI.ak.all (dr n m))=true) (hS:S.st=s0) (hb:(Nat.ble s0.ak.length n && Nat.ble s0.aa.length m)=true):aQ P f N S Q todo env st:=by
 simp only[zaf] at hn hb
 exact .to n m (gN hE) ho ht hn.1 hn.2 iE (by rw[hS];exact zac hb.1) (by rw[hS];exact zac hb.2) h
end back
end sound
theorem kQ.e {P:uF} {base:Nat} {env:Env} {st v7 v8:St} {o:Oper} (h:kQ P base env st o v7) (he:v7=v8):kQ P base env st o v8:=he▸h
theorem ib.e {P:uF} {base:Nat} {env:Env} {st v7 v8:St} {o:Oper} {x:EV} (h:ib P base env st o x v7) (he:v7=v8):ib P base env st o x v8:=he▸h
theorem QD.m {q:D->Prop} {r:EV} {st:St} {x:D} (hq:q x) (h:bV r (.d x)):QD q r st:=⟨x,h,hq⟩
structure yr (P:uF) (t e sz:Nat):Prop where
 ht:P.underlying t=some (.slice e)
 hi:∃ inf z,P.info? e=some inf/\inf.zero=some z/\inf.size=sz/\z.cells.size=sz/\inf.bytes<=100000
section slt
variable {P:uF} {t e sz:Nat} (s:yr P t e sz) {base:Nat} {env:Env} {st:St} {d:Option Tmp} {ty:uE} {pos:String} {after:uD Edge} {gd:Option (Nat×Bool)} {x y:uG} {α:Type} {row:α->List D} {l l':List α} {ev w:EV}
include s
theorem yr.n (hx:bX env x=some ev) (hs:jV ev=some (sz,l.map row)):jP P env st ⟨d,.call ⟨.builtin .len,#[x],#[t]⟩,ty,pos,after,gd⟩ (.d (cI (l.length:Int))):=(tx s.ht hx hs).g
theorem yr.a {tk:Nat} (hx:bX env x=some (.cF sz (l.map row) tk)) (bS:st.aa[tk]?=some ⟨e,sz,l.length,none⟩) (hy:bX env y=some w) (hs:jV w=some (sz,l'.map row)) (hn:l.length+l'.length<=1000000000) :
  ib P base env st ⟨d,.call ⟨.builtin .append,#[x,y],#[t,t]⟩,ty,pos,after,gd⟩ (.cF sz ((l++l').map row) tk) (st.ah tk ⟨e,sz,(l++l').length,none⟩):=by
 obtain ⟨inf,z,h1,h2,h3,h4,h5⟩:=s.hi
 exact ni s.ht h1 h2 h3 h4 h5 hx bS hy hs hn
end slt
abbrev Hint.a {α:Type} (tk e sz:Nat) (row:α->List D) (l:List α):Hint:=.t (.cF sz (l.map row) tk) tk ⟨e,sz,l.length,none⟩
abbrev Hint.i (n:Int):Hint:=.g (.d (cI n))
abbrev Hint.b (b:Bool):Hint:=.g (.d (cB b))
abbrev Hint.c (c:uA):Hint:=.g (.d (Aq c))
abbrev Hint.s (l:List uA):Hint:=.g (.d (cS l))
abbrev Hint.d (x:D):Hint:=.g (.d x)
section renew
variable {P:uF} {g:aw} {base:Nat} {w:uC} {st:St}
def St.renew (st:St) (tk:Nat) (x x':bU):St:=(st.ah tk ⟨x.e,x.sz,0,none⟩).tok x'
theorem nr {tk t:Nat} {x x' y:bU} (hlen:tk<st.aa.length) (h:(st.renew tk x x').aa[t]?=some y) :
  (t=st.aa.length/\y=x')∨(t=tk/\y=⟨x.e,x.sz,0,none⟩)∨(t≠tk/\t<st.aa.length/\st.aa[t]?=some y):=by
 have hl:t<(st.renew tk x x').aa.length:=(zaa.1 h).1
 simp[St.renew,St.tok,St.ah] at hl
 by_cases h1:t=st.aa.length
 ·subst h1
  left
  refine ⟨rfl,?_⟩
  simpa [St.renew,St.tok,St.ah,eq_comm] using h
 ·right
  have aG:t<st.aa.length:=by omega
  by_cases h2:t=tk
  ·left
   subst h2
   refine ⟨rfl,?_⟩
   simpa [St.renew,St.tok,St.ah,aG,zak,eq_comm] using h
  ·right
   refine ⟨h2,aG,?_⟩
   simpa [St.renew,St.tok,St.ah,aG,zak,zbl,zbe h2] using h
theorem nt {tk t:Nat} {x x' y:bU} (ht:t≠tk) (h:st.aa[t]?=some y):(st.renew tk x x').aa[t]?=some y:=by
 have aG:t<st.aa.length:=(zaa.1 h).1
 rw[←h]
 simp[St.renew,St.tok,St.ah,zak,aG,zbl,zbe ht]
theorem nu {tk:Nat} {x x':bU}:(st.renew tk x x').aa[st.aa.length]?=some x':=by simp[St.renew,St.tok,St.ah]
theorem Inv.renew (h:Inv g base w st) {tk:Nat} {x x':bU} {rows ab:O (O D)} (bS:st.aa[tk]?=some x) (hx:x.own=some rows) (jQ:x'.own=some ab)
  {v':uB} {w':uC} {vF:O uB} (cq:w'.ownsRow base x'.e x'.sz v' x'.n vF)
  (hc:(v'.ownBlock=(g.tk tk).ownBlock/\w'.heap.size=w.heap.size/\w.grownBy w' (g.tk tk).ownBlock)∨(v'.ownBlock=some w.heap.size/\Below w.heap.size w w'))
  (ja:dE g.ae w x'.sz x'.n ab vF) :
  ∃ g',g'.tk st.aa.length=v'/\Inv g' base w' (st.renew tk x x')/\Step base g w st g' w' (st.renew tk x x'):=by
 have gz:∀ b,(g.tk tk).ownBlock=some b->g.ae b=0:=λb hb=>(h.jX bS hb).trans (gy hx)
 have aG:∀ b,(g.tk tk).ownBlock=some b->base<=b/\b<w.heap.size:=λb hb=>h.gh bS hb
 have hlen:tk<st.aa.length:=(zaa.1 bS).1
 have a6:w.heap.size<=w'.heap.size:=by rcases hc with ⟨_,h1,_⟩|⟨_,h1⟩;omega;exact h1.size
 have nb:w'.os=w.os/\w'.tape=w.tape/\w'.output=w.output:=by rcases hc with ⟨_,_,h1⟩|⟨_,h1⟩<;>exact ⟨h1.os,h1.tape,h1.output⟩
 have bo:∀ k,k<w.heap.size->(g.tk tk).ownBlock≠some k->w'.heap[k]?=w.heap[k]?:=by
  intro k hk aN
  rcases hc with ⟨_,_,h1⟩|⟨_,h1⟩
  ·exact h1.block k hk (zbe aN)
  ·exact h1.block k hk
 have ei:∀ k,k<w.heap.size->(g.tk tk).ownBlock≠some k->v'.ownBlock≠some k:=by
  intro k hk aN
  rcases hc with ⟨h1,_,_⟩|⟨h1,_⟩<;>rw[h1]
  ·exact aN
  ·intro he;cases he;omega
 let g':aw:=⟨λb=>if v'.ownBlock=some b then 0 else g.ae b,g.ob,λt=>if t=tk then .slice none 0 0 else if t=st.aa.length then v' else g.tk t⟩
 have gA:∀ b,v'.ownBlock=some b->g'.ae b=0:=λb hb=>by show (if _ then _ else _)=_;rw[zam hb]
 have b7:∀ b,v'.ownBlock≠some b->g'.ae b=g.ae b:=λb hb=>by show (if _ then _ else _)=_;rw[zaj hb]
 have nv:g'.tk tk=.slice none 0 0:=by show (if tk=tk then _ else _)=_;rw[zam rfl]
 have dO:g'.tk st.aa.length=v':=by show (if st.aa.length=tk then _ else _)=_;rw[zaj (by omega),zam rfl]
 have cT:∀ t,t≠tk->t<st.aa.length->g'.tk t=g.tk t:=λt ht hl=>by show (if t=tk then _ else _)=_;rw[zaj ht,zaj (by omega)]
 have eI:∀ k,k<base->(g.tk tk).ownBlock≠some k:=λk hk he=>by have:=(aG k he).1;omega
 have jd:Below base w w':=⟨nb.1,nb.2.1,nb.2.2,a6,λk hk=>bo k (zag hk h.base) (eI k hk)⟩
 have kV:mR g.ae w g'.ae w':=by
  refine ⟨a6,λb hb=>?_,λb off hb ho=>?_⟩
  ·by_cases he:v'.ownBlock=some b
   ·rw[gA b he]
    have bY:(g.tk tk).ownBlock=some b:=by
     rcases hc with ⟨h1,_,_⟩|⟨h1,_⟩
     ·rw[←h1];exact he
     ·rw[h1] at he;cases he;omega
    rw[gz b bY];exact zba _
   ·rw[b7 b he];exact zab _
  ·by_cases he:(g.tk tk).ownBlock=some b
   ·rw[gz b he] at ho;omega
   ·exact World.cell?_of_block (w:=w) (a:=⟨b,off,none⟩) (bo b hb he)
 have aP:=λ(t:Nat) (y:bU) (hy:(st.renew tk x x').aa[t]?=some y)=>nr hlen hy
 have hs:fY g w st g' w' (st.renew tk x x'):=by
  refine ⟨kV,λ_ _=>rfl,zab _,λt e' qG n' ht=>?_,by simp[St.renew,St.tok,St.ah],λt y mc iV hy ho=>?_⟩
  ·have dH:t≠tk:=by
    intro e
    subst e
    rw[bS] at ht
    cases ht
    cases hx
   exact ⟨n',nt dH ht,zab _,λ_=>cT t dH (zaa.1 ht).1⟩
  ·rcases aP t y hy with ⟨h1,_⟩|⟨_,h2⟩|⟨h1,h2,h3⟩
   ·omega
   ·rw[h2] at ho;cases ho
   ·exact ⟨y,mc,h3,ho,rfl,zab _,λ_=>cT t h1 h2⟩
 have eJ:∀ o,st.live o->g.ob o<w.heap.size/\(g.tk tk).ownBlock≠some (g.ob o):=λo ho=>⟨(h.l0 ho).1,h.cN tk _ o bS ho⟩
 have a7:∀ t y,t≠tk->st.aa[t]?=some y->∀ b,(g.tk t).ownBlock=some b->b<w.heap.size/\(g.tk tk).ownBlock≠some b/\v'.ownBlock≠some b:=λt y dH hy b hb=>by
  have h1:=(h.gh hy hb).2
  have h2:=h.ed t tk _ _ b dH hy bS hb
  exact ⟨h1,h2,ei b h1 h2⟩
 refine ⟨g',dO,⟨zau h.base a6,?_,?_,?_,h.ne,?_,?_,?_,h.eE.below jd,?_⟩,⟨hs,jd,λb hb=>b7 b (ei b (zag hb h.base) (eI b hb)),λb hb hn=>?_,λb hb hw=>?_⟩⟩
 ·intro o ty cs hx
  obtain ⟨h1,h2,vs,h3,h4,h5⟩:=h.row o ty cs hx
  obtain ⟨k1,k2⟩:=eJ o ⟨_,hx,by simp⟩
  exact ⟨h1,(b7 _ (ei _ k1 k2)).trans h2,vs,by show w'.heap[g.ob o]?=_;rw[bo _ k1 k2];exact h3,h4,λi c u hc hu=>⟨(h5 i c u hc hu).1.mono hs,(h5 i c u hc hu).2⟩⟩
 ·intro o es hx
  obtain ⟨h1,ms,c,h3,h4,h5,h6⟩:=h.map o es hx
  obtain ⟨k1,k2⟩:=eJ o ⟨_,hx,by simp⟩
  exact ⟨h1,ms,c,by show w'.heap[g.ob o]?=_;rw[bo _ k1 k2];exact h3,h4,λi k y m a b=>⟨(h5 i k y m a b).1,(h5 i k y m a b).2.mono hs⟩,h6⟩
 ·intro o y hx
  obtain ⟨h1,h2,h3⟩:=h.raw o y hx
  obtain ⟨k1,k2⟩:=eJ o ⟨_,hx,by simp⟩
  exact ⟨h1,(b7 _ (ei _ k1 k2)).trans h2,by show w'.heap[g.ob o]?=_;rw[bo _ k1 k2];exact h3⟩
 ·intro t e' qG n' ht
  rcases aP t _ ht with ⟨h1,h2⟩|⟨h1,h2⟩|⟨h1,h2,h3⟩
  ·subst h2;cases jQ
  ·subst h1
   cases h2
   rw[nv]
   exact ⟨[],World.ownsRow_nil w' base _ _,λb hb=>by cases hb⟩
  ·obtain ⟨ys,k1,k2⟩:=h.tail t e' qG n' h3
   rw[cT t h1 h2]
   exact ⟨ys,bB k1 λb hb=>bo b (a7 t _ h1 h3 b hb).1 (a7 t _ h1 h3 b hb).2.1,λb hb=>by rw[b7 b (a7 t _ h1 h3 b hb).2.2];exact k2 b hb⟩
 ·intro t t' y y' b aN ht eK hb
  rcases aP t _ ht with ⟨h1,h2⟩|⟨h1,h2⟩|⟨h1,h2,h3⟩
  ·subst h1
   rw[dO] at hb
   rcases aP t' _ eK with ⟨k1,k2⟩|⟨k1,k2⟩|⟨k1,k2,k3⟩
   ·exact absurd k1.symm aN
   ·rw[k1,nv];intro e;cases e
   ·rw[cT t' k1 k2]
    intro bY
    exact (a7 t' _ k1 k3 b bY).2.2 hb
  ·rw[h1,nv] at hb;cases hb
  ·rw[cT t h1 h2] at hb
   rcases aP t' _ eK with ⟨k1,k2⟩|⟨k1,k2⟩|⟨k1,k2,k3⟩
   ·rw[k1,dO]
    exact (a7 t _ h1 h3 b hb).2.2
   ·rw[k1,nv];intro e;cases e
   ·rw[cT t' k1 k2]
    exact h.ed t t' _ _ b aN h3 k3 hb
 ·intro t y o ht ho
  have bR:st.live o:=ho
  obtain ⟨k1,k2⟩:=eJ o bR
  rcases aP t _ ht with ⟨h1,h2⟩|⟨h1,h2⟩|⟨h1,h2,h3⟩
  ·rw[h1,dO];exact ei _ k1 k2
  ·rw[h1,nv];intro e;cases e
  ·rw[cT t h1 h2];exact h.cN t y o h3 bR
 ·intro t e' qG n' mc ht
  rcases aP t _ ht with ⟨h1,h2⟩|⟨h1,h2⟩|⟨h1,h2,h3⟩
  ·subst h1
   subst h2
   cases jQ
   rw[dO]
   exact ⟨_,cq,λb hb=>gA b hb,ja.mono kV⟩
  ·cases h2
  ·obtain ⟨ys,k1,k2,k3⟩:=h.own t e' qG n' mc h3
   rw[cT t h1 h2]
   exact ⟨ys,bB k1 λb hb=>bo b (a7 t _ h1 h3 b hb).1 (a7 t _ h1 h3 b hb).2.1,λb hb=>by rw[b7 b (a7 t _ h1 h3 b hb).2.2];exact k2 b hb,k3.mono kV⟩
 ·have aN:(g.tk tk).ownBlock≠some b:=λe=>hn (.inr ⟨tk,x,bS,e⟩)
  exact ⟨bo b hb aN,b7 b (ei b hb aN)⟩
 ·rcases hw with ⟨o,h1,h2⟩|⟨t,y,h1,h2⟩
  ·exact .inl ⟨o,h1,h2⟩
  ·rcases aP t _ h1 with ⟨k1,k2⟩|⟨k1,k2⟩|⟨k1,k2,k3⟩
   ·rw[k1,dO] at h2
    rcases hc with ⟨c1,_,_⟩|⟨c1,_⟩
    ·exact .inr ⟨tk,x,bS,by rw[←c1];exact h2⟩
    ·rw[c1] at h2;cases h2;omega
   ·rw[k1,nv] at h2;cases h2
   ·rw[cT t k1 k2] at h2
    exact .inr ⟨t,y,k3,h2⟩
end renew
section rows
variable {P:uF} (w:uC)
def laid (cur:List uB) (o:Nat) (cs:List uB):List uB:=cur.take o++cs++cur.drop (o+cs.length)
end rows
end Go.Abs
namespace Go.Abs
open Go.RowKit
section move
variable {P:uF} {f:Ctx} {N:Nat} {S:Start} {Q:EV->St->Prop} {k todo:List Item} {env:Env} {st:St}
theorem aQ.move {i tk e sz n:Nat} {rows:O (O D)} (hl:lookup i env=some (.vc tk n)) (bS:st.aa[tk]?=some ⟨e,sz,n,some rows⟩)
  (h:aQ P f N S Q todo ((i,.vc st.aa.length n)::env) (st.renew tk ⟨e,sz,n,some rows⟩ ⟨e,sz,n,some rows⟩)):aQ P f N S Q todo env st:=by
 intro g w tmps hinv hh he hN
 obtain ⟨xs,o1,o2,o3⟩:=hinv.own tk e sz n rows bS
 obtain ⟨g',k1,k2,k3⟩:=hinv.renew (x':=⟨e,sz,n,some rows⟩) bS rfl rfl o1 (.inl ⟨rfl,rfl,⟨rfl,rfl,rfl,zab _,λ_ _ _=>rfl⟩⟩) o3
 refine h g' w tmps k2 (hh.step k3) (λj y hy=>?_) hN
 unfold lookup at hy
 have se:=he.mono k3.bn
 cases hb:Nat.beq j i with
 | true =>
  rw[hb] at hy
  cases hy
  have:=zae hb
  subst this
  obtain ⟨v,m1,m2⟩:=he j _ hl
  refine ⟨v,m1,?_⟩
  have hf:∃ A m c,v=.slice A m c:=by cases m2 with|vc _ _ _ _ hf _=>exact hf
  refine .vc _ _ _ (by simp[St.renew,St.tok,St.ah]) hf λy mc hy ho=>?_
  rw[nu] at hy
  cases hy
  refine ⟨zab _,λ_=>?_⟩
  rcases vQ hinv bS m2 with hv|⟨n0,r0,A,hv⟩
  ·exact .inl (by rw[k1];exact hv)
  ·exact .inr ⟨n0,A,hv⟩
 | false =>
  rw[hb] at hy
  exact se j y hy
end move
section fwp
variable {P:uF} {R:Ending->uC->Prop} {k:List Item} {tmps:uD uB} {w:uC}
theorem ag.beginRound {f:FuncId} {ds:O Deferred} {l:Nat} {w':uC} (hr:(Instr.beginRound l).run P w=.ok () w') (h:ag P ⟨f,ds,some l,false⟩ R k tmps w'):ag P ⟨f,ds,some l,false⟩ R (.beginRound::k) tmps w :=
 ag.step (λ_=>stepR_beginRound rfl hr) h
theorem ag.round {f:Ctx} {ops:uD Oper} {i l:Nat} {rest:O Nat} {o:Oper} {f':FuncId} {tm:uD uB} {assign body:Code} {w':uC}
  (ho:ops[i]?=some o) (hw:Region.wanted o (yielded ops tmps)=true) (hr:(execOp (Act.eval ⟨tmps,[]⟩) o).run P w=.ok (.round l f' tm assign body) w')
  (h:ag P ⟨f',[],some l,false⟩ (λ_ w2=>∃ w3,(Instr.endRound l none).run P w2=.ok (.bool true) w3/\ag P f R (.inRegion ops rest::k) (Act.put ⟨tmps,[]⟩ o.dst (.bool true)).tmps w3) [.code assign,.beginRound,.code body] tm w') :
  ag P f R (.inRegion ops (i::rest)::k) tmps w:=by
 intro cs
 have hg:=stepGR_op (P:=P) (b:=bf f) (a:=⟨tmps,f.ds⟩) (k:=k) (cs:=cs) (w:=w) (rest:=rest) ho hw
 rw[dF,eH hr (by simp)] at hg
 have iS:∀ v,((bf f).atR ⟨tmps,f.ds⟩ (.inRegion ops (i::rest)::k)).finish v=(bf f).atR (Act.put ⟨tmps,f.ds⟩ o.dst v) (.inRegion ops rest::k):=by
  intro v;rw[Frame.finish_atR,ho];rfl
 obtain ⟨e,w2,fr,⟨w3,he,hF⟩,gq,wa⟩:=h ((bf f).atR ⟨tmps,f.ds⟩ (.inRegion ops (i::rest)::k)::cs)
 obtain ⟨rfl,Bv,rfl⟩:=wa
 have Ay:Frame.round l f' tm assign body .normal=(bf ⟨f',[],some l,false⟩).atR ⟨tm,[]⟩ [.code assign,.beginRound,.code body]:=by simp[Frame.round,Frame.atR,bf]
 have cO:Go.step P (lone ((bf f).atR ⟨tmps,f.ds⟩ (.inRegion ops (i::rest)::k)) cs w) =
   .next (lone ((bf ⟨f',[],some l,false⟩).atR ⟨tm,[]⟩ [.code assign,.beginRound,.code body]) ((bf f).atR ⟨tmps,f.ds⟩ (.inRegion ops (i::rest)::k)::cs) w'):=by
  rw[←Ay]
  exact step_lone_go (by rw[hg];simp[stepG.apply,hr,Frame.atR])
 obtain ⟨e,w4,s7,hR,hc,h1⟩:=hF cs
 refine ⟨e,w4,s7,hR,Comes.of_steps (.head cO (Steps.trans gq (.one ?_))) hc,h1⟩
 rw[←put_eq,←iS]
 exact stepR_round_end rfl rfl he
theorem ag.rangeFunc {f it:FuncId} {g:uG} {ps:uD Tmp} {assign body:Code} {vs:uD uB} (hg:Act.eval ⟨tmps,[]⟩ g=.func (.func it) #[] vs) (Az:Enters P it)
  (h:Calls P it (#[.func (.yield (w.heap.size+1)) #[] #[]]++vs) ((w.alloc (.deferred (some []))).alloc (.loop { state:=.ready,pending:=none,fn:=f,tmps:=tmps,params:=ps,assign,body,defers:=w.heap.size }))
   λe w2=>(∃ v,e=.returned v)/\∃ w3,(Instr.endLoop (w.heap.size+1)).run P w2=.ok none w3/\ag P ⟨f,[{ target:=.collected w.heap.size,args:=#[] }],none,false⟩ R k tmps w3) :
  ag P (.of f) R (.code (.rangeFunc g ps assign body)::k) tmps w:=by
 intro cs
 have he:=run_enterLoop_outer (P:=P) (w:=w) f tmps ps assign body
 generalize hW:(w.alloc (.deferred (some []))).alloc (.loop { state:=.ready,pending:=none,fn:=f,tmps:=tmps,params:=ps,assign,body,defers:=w.heap.size })=W1 at he h
 have lh:(resolve (Act.eval ⟨tmps,[]⟩) (rangeCall g (w.heap.size+1)) 0).run P W1=.ok { target:=.fn (.func it) vs,args:=#[.func (.yield (w.heap.size+1)) #[] #[]] } W1:=by
  simp only[rangeCall,resolve]
  rw[hg]
  simp[Deferred.ofValue,Act.eval]
 have hinv:(invoke (.fn (.func it) vs) #[.func (.yield (w.heap.size+1)) #[] #[]]).run P W1=.ok (.enter it (#[.func (.yield (w.heap.size+1)) #[] #[]]++vs)) W1:=by
  simp only[invoke];exact cR Az _ _
 have cO:=stepR_rangeFunc (P:=P) (b:=bf (.of f)) (a:=⟨tmps,[]⟩) (k:=k) (cs:=cs) (w:=w) he lh hinv
 obtain ⟨e,w2,fr,⟨⟨v,rfl⟩,w3,tF,hF⟩,gq,_,kP⟩:=h ((bf (.of f)).atR ⟨tmps,[{ target:=.collected w.heap.size,args:=#[] }]⟩ (.inRangeFunc (w.heap.size+1)::k)::cs)
 obtain ⟨e,w4,s7,hR,hc,h1⟩:=hF cs
 refine ⟨e,w4,s7,hR,Comes.of_steps (.head cO (Steps.trans gq (.head (step_leave_returned kP) (.one ?_)))) hc,h1⟩
 rw[finish_atR_inRangeFunc]
 exact stepR_endRangeFunc tF
theorem ag.yt {f:FuncId} {D:Nat} {fn:Func} {v:uB} {w':uC} (hf:P.funcs[f]?=some fn) (ht:(Instr.takeDeferred D).run P w=.ok [] w') (hr:(results fn tmps).run P w'=.ok v w') (hR:R (.returned v) w') :
  ag P ⟨f,[{ target:=.collected D,args:=#[] }],none,false⟩ R (.code .ret::k) tmps w :=
 λcs=>⟨.returned v,w',_,hR,.head (stepR_ret rfl) (.one (step_collected (by simp) rfl rfl ht)),rfl,rfl,rfl,rfl,fn,hf,hr⟩
end fwp
section frames
variable {P:uF} {f:Ctx} {R:Ending->uC->Prop} {k:List Item} {tmps:uD uB} {w:uC} {ops:uD Oper} {i:Nat} {rest:List Nat} {o:Oper}
theorem Ctx.tG {d:O Deferred} {fr:Frame} {e:Ending} (fQ:f.ro=none) (h:(⟨f.fn,d,f.ro,f.dk⟩:Ctx).fin P fr w e):f.fin P fr w e:=by
 unfold Ctx.fin at h ⊢
 simp only[fQ] at h ⊢
 exact h
theorem ag.qR {d:Deferred} {w':uC} (fQ:f.ro=none) (ho:ops[i]?=some o) (hw:Region.wanted o (yielded ops tmps)=true)
  (hr:(execOp (Act.eval ⟨tmps,[]⟩) o).run P w=.ok (.defer d) w') (h:ag P ⟨f.fn,d::f.ds,f.ro,f.dk⟩ R (.inRegion ops rest::k) (Act.put ⟨tmps,[]⟩ o.dst undef).tmps w') :
  ag P f R (.inRegion ops (i::rest)::k) tmps w:=by
 intro cs
 have hg:=stepGR_op (P:=P) (b:=bf f) (a:=⟨tmps,f.ds⟩) (k:=k) (cs:=cs) (w:=w) (rest:=rest) ho hw
 have hb:(bf f).roundOf=none:=fQ
 rw[dF,hb,Oper.semAt_none] at hg
 obtain ⟨e,w2,fr,hR,hc,hf⟩:=h cs
 refine ⟨e,w2,fr,hR,Comes.of_steps (.one (step_lone_go ?_)) hc,Ctx.tG fQ hf⟩
 have iS:({ (bf f).atR ⟨tmps,f.ds⟩ (.inRegion ops (i::rest)::k) with defers:=d::f.ds }:Frame).finish undef=(bf ⟨f.fn,d::f.ds,f.ro,f.dk⟩).atR ⟨(Act.put ⟨tmps,[]⟩ o.dst undef).tmps,d::f.ds⟩ (.inRegion ops rest::k):=by
  cases hd:o.dst<;>simp[Frame.finish,Frame.atR,Act.put,bf,ho,hd]
 rw[hg,←iS]
 simp[stepG.apply,hr,Frame.atR]
theorem ag.yu {fn:Func} (fQ:f.ro=none) (lj:f.dk=false) (hf:P.funcs[f.fn]?=some fn) (h:Leaves P fn tmps R f.ds .returning w):ag P f R (.code .ret::k) tmps w:=by
 intro cs
 have hk:(bf f).kind=.normal:=by simp[bf,lj]
 obtain ⟨e,w',s7,hR,hs,nW,hl⟩:=leaves_steps (R:=R) f.ds .returning w { (bf f).atR ⟨tmps,f.ds⟩ (.code .ret::k) with mode:=.returning } cs rfl rfl rfl hf hk h
 exact ⟨e,w',s7,hR,Comes.of_steps (.one (stepR_ret fQ)) hs,by unfold Ctx.fin;simp only[fQ,lj];exact ⟨nW,hl⟩⟩
theorem ag.wb {f:FuncId} {fn:Func} {v:uB} (hf:P.funcs[f]?=some fn) (hr:(results fn tmps).run P w=.ok v w) (hR:R (.returned v) w):ag P ⟨f,[],none,true⟩ R (.code .ret::k) tmps w :=
 λcs=>⟨.returned v,w,_,hR,.one (stepR_ret rfl),rfl,rfl,rfl,fn,hf,hr⟩
theorem ag.wc {f:FuncId} {fn:Func} {v:uB} (hf:P.funcs[f]?=some fn) (hr:(results fn tmps).run P w=.ok v w) (hR:R (.returned v) w):ag P ⟨f,[],none,true⟩ R [] tmps w :=
 λcs=>⟨.returned v,w,_,hR,.one (stepR_end rfl),rfl,rfl,rfl,fn,hf,hr⟩
theorem ag.oH {f:FuncId} {fn:Func} {c:Code} {args:uD uB} {u:FrameMode} (hf:P.funcs[f]?=some fn) (hb:fn.body=some c)
  (h:ag P ⟨f,[],none,true⟩ R [.code c] (args++Array.replicate (fn.ntmps-args.size) undef) w):CallsD P f args u w λe u' w'=>u'=u/\R e w':=by
 intro c0 cs hu
 have cO:Frame.enter P f args .deferred=(bf ⟨f,[],none,true⟩).atR ⟨args++Array.replicate (fn.ntmps-args.size) undef,[]⟩ [.code c]:=by
  simp[Frame.enter,Frame.atR,hf,hb,bf]
 obtain ⟨e,w',fr,hR,hc,h1,h2⟩:=h (c0::cs)
 refine ⟨e,u,w',fr,⟨rfl,hR⟩,?_,h1,h2⟩
 have:({ c0 with mode:=u }:Frame)=c0:=by cases c0;simp at hu;subst hu;rfl
 rw[cO,this]
 exact hc
end frames
def oI (P:uF) (f:FuncId) (args:List EV) (st:St) (Q:EV->St->Prop):Prop :=
 ∀ g w base vs u,Inv g base w st->lZ g w st args vs->CallsD P f vs u w λe u' w'=>u'=u/\dS ⟨g,w,st,base⟩ Q e w'
section runs
variable {P:uF} {N:Nat} {S:Start} {Q:EV->St->Prop} {k:List Item} {env:Env} {st:St} {ops rest:List Oper}
theorem oI.enter {f:FuncId} {fn:Func} {c:Code} {args:O EV} (hf:P.funcs[f]?=some fn) (hb:fn.body=some c) (hN:fn.ntmps=N) (hl:Nat.ble args.length N=true)
  (h:∀ S:Start,S.st=st->aQ P ⟨f,[],none,true⟩ N S Q [.code c] (ee 0 args) st):oI P f args st Q:=by
 intro g w base vs u hi ha
 have mX:=zac hl
 have dh:=ha.1
 refine ag.oH hf hb ?_
 refine h ⟨g,w,st,base⟩ rfl g w _ hi (eG.refl ⟨g,w,st,base⟩) ?_ (by simp[hN];omega)
 intro j y hy
 obtain ⟨k,rfl,hk⟩:=cy args 0 j y hy
 have kT:=(zaa.1 hk).1
 refine ⟨vs[k]'(by omega),?_,ha.2 k y _ hk (by simp[dh,kT])⟩
 rw[zbd,zcd (by omega)]
 simp[dh,kT]
end runs
end Go.Abs
namespace Go.CI
open Go.Abs
inductive Tr (α:Type) where
 | e
 | n (l:Tr α) (x:Option α) (r:Tr α)
noncomputable def Tr.get {α:Type} (t:Tr α):Nat->Option α :=
 Tr.rec (λ_=>none) (λ_ x _ gl gr i=>Nat.rec x (λj _=>Nat.rec (gl (Nat.div j 2)) (λ_ _=>gr (Nat.div j 2)) (Nat.mod j 2)) i) t
inductive X (α:Type) where
 | v (a:α)
 | e (n:Nat) (o:Option Oper)
noncomputable def Tr.set {α β:Type} (f:Nat):Tr α->Nat->α->(Tr α->X β)->X β :=
 Nat.rec (λ_ _ _ _=>.e 1 none) (λ_ ih t i a k =>
  Tr.rec (motive:=λ_=>X β)
   (Nat.rec (k (.n .e (some a) .e)) (λj _=>Nat.rec (ih .e (Nat.div j 2) a λl=>k (.n l none .e)) (λ_ _=>ih .e (Nat.div j 2) a λr=>k (.n .e none r)) (Nat.mod j 2)) i)
   (λl x r _ _=>Nat.rec (k (.n l (some a) r)) (λj _=>Nat.rec (ih l (Nat.div j 2) a λl=>k (.n l x r)) (λ_ _=>ih r (Nat.div j 2) a λr=>k (.n l x r)) (Nat.mod j 2)) i) t) f
inductive V where
 | c (v:uB)
 | s (l:List Nat)
 | p (o off:Nat)
 | l (o off n:Nat) (k:Option Nat)
 | z
 | m (o:Nat)
 | f (g:Nat) (cs:List V)
 | y (o:Nat)
 | a (cs:List V)
 | t (cs:List V)
inductive Ob where
 | c (ty sz:Nat) (cs:List V)
 | k (cs:List V)
 | m (es:List (V×Nat×V)) (ck:Nat)
 | i (s:List Nat) (pos:Nat)
 | r (b:Bool) (fn n:Nat) (env:Tr V) (ps:List Nat) (a b:Code)
 | d
 | g
noncomputable def undef:V:=.t []
noncomputable def fN {β:Type} (n:Nat) (k:Nat->β):β:=Nat.rec (k 0) (λm _=>k (Nat.succ m)) n
noncomputable def fI {β:Type} (n:Int) (k:Int->β):β:=Int.rec (λn=>fN n λn=>k (.ofNat n)) (λn=>fN n λn=>k (.negSucc n)) n
noncomputable def fB {β:Type} (b:Bool) (k:Bool->β):β:=Bool.rec (k false) (k true) b
noncomputable def fC {β:Type} (v:uB) (k:uB->β):β:=match v with
 | .int j n=>fI n λn=>k (.int j n)
 | .bool b=>fB b λb=>k (.bool b)
 | v=>k v
noncomputable def nth {α:Type} (l:List α):Nat->Option α :=
 List.rec (λ_=>none) (λa _ ih i=>Nat.rec (some a) (λj _=>ih j) i) l
noncomputable def kj {α β:Type} (n:Nat):List α->(List α->β)->β :=
 Nat.rec (λ_ k=>k []) (λ_ ih l k=>List.rec (k []) (λa l _=>ih l λl=>k (a::l)) l) n
noncomputable def kl {α β:Type} (n:Nat):List α->(List α->β)->β :=
 Nat.rec (λl k=>k l) (λ_ ih l k=>List.rec (k []) (λ_ l _=>ih l k) l) n
noncomputable def lk {α β:Type} (l m:List α):(List α->β)->β :=
 List.rec (λk=>k m) (λa _ ih k=>ih λl=>k (a::l)) l
noncomputable def ll {α γ β:Type} (g:α->(γ->β)->β) (l:List α):(List γ->β)->β :=
 List.rec (λk=>k []) (λa _ ih k=>g a λa=>ih λl=>k (a::l)) l
noncomputable def oJ {α β:Type} (z:List α) (n:Nat):(List α->β)->β :=
 Nat.rec (λk=>k []) (λ_ ih k=>ih λl=>lk z l k) n
noncomputable def oK {α β:Type} (l:List α):Nat->(Nat->β)->β :=
 List.rec (λn k=>k n) (λ_ _ ih n k=>ih (Nat.succ n) k) l
noncomputable def ki {α β:Type} (new:List α) (n:Nat):List α->(List α->β)->β :=
 Nat.rec (λl k=>kl new.length l λl=>lk new l k) (λ_ ih l k=>List.rec (k []) (λa l _=>ih l λl=>k (a::l)) l) n
noncomputable def cI (n:Int):V:=.c (.int .i64 n)
noncomputable def cB (b:Bool):V:=.c (.bool b)
noncomputable def qS:List uB->List V
 | []=>[]
 | .string s::l=>.s (s.data.toList.map UInt8.toNat)::qS l
 | v::l=>.c v::qS l
noncomputable def qT:List uB->Bool
 | []=>true
 | v::l=>match v.oneCell' with
  | true=>qT l
  | false=>false
noncomputable def tH:uB->V
 | .string s=>.s (s.data.toList.map UInt8.toNat)
 | .agg ⟨cs⟩=>match qT cs with
  | true=>.a (qS cs)
  | false=>.c (.agg ⟨cs⟩)
 | .func (.func f) ⟨[]⟩ ⟨[]⟩=>.f f []
 | v=>.c v
mutual
noncomputable def fV {β:Type}:V->(V->β)->β
 | .c v,k=>fC v λv=>k (.c v)
 | .s l,k=>ll (λn k=>fN n k) l λl=>k (.s l)
 | .a cs,k=>we cs λcs=>k (.a cs)
 | v,k=>k v
noncomputable def we {β:Type}:List V->(List V->β)->β
 | [],k=>k []
 | v::l,k=>fV v λv=>we l λl=>k (v::l)
end
noncomputable def cells:V->Option (List V)
 | .a cs=>some cs
 | .t _=>none
 | .c v=>match v.oneCell' with
  | true=>some [.c v]
  | false=>none
 | v=>some [v]
inductive TK where
 | bool|int (k:IntKind)|str|sl (e:Nat)|ar (n e:Nat)|mp (k e:Nat)|st (fs:List (Nat×Nat×Nat))|pt|fn|ot
structure TI where
 k:TK
 sz:Nat
 z:V
 ez:Nat
 ev:V
 eg:Nat
 g:Nat
 fk:Option (List FK)
 fq:Option (List FK)
 eb:Nat
noncomputable def nw (P:uF) (t:Nat):Nat:=match P.underlying t with
 | some (.struct _)=>1
 | some (.array _ _)=>1
 | _=>0
noncomputable def bz (P:uF):TypeDesc->TK
 | .bool=>.bool
 | .int k=>.int k
 | .string=>.str
 | .slice e=>match (P.info? e).isSome && (P.underlying e).isSome with
  | true=>.sl e
  | false=>.ot
 | .array n e=>match (P.info? e).isSome && (P.underlying e).isSome with
  | true=>.ar n e
  | false=>.ot
 | .map k e=>match (P.info? e).isSome && (P.underlying e).isSome with
  | true=>.mp k e
  | false=>.ot
 | .pointer _=>.pt
 | .func _ _ _=>.fn
 | .struct fs=>match fs.toList.all λf=>(P.info? f.type).isSome && (P.underlying f.type).isSome with
  | true=>.st (fs.toList.map λf=>(f.offset,nw P f.type,dn P f.type))
  | false=>.ot
 | _=>.ot
noncomputable def kI (P:uF) (t:Nat):V:=match P.info? t with
 | some i=>match i.zero with
  | some z=>match Nat.beq z.cells.size i.size with
   | true=>tH z
   | false=>undef
  | none=>undef
 | none=>undef
noncomputable def gi:TypeDesc->Nat
 | .slice e=>e
 | .array _ e=>e
 | .map _ e=>e
 | _=>0
noncomputable def ln (P:uF) (t:Nat):Nat:=match P.info? t with
 | some i=>i.bytes
 | none=>0
noncomputable def qU (P:uF) (t:Nat):Option TI:=match P.info? t,P.underlying t with
 | some i,some d=>some ⟨bz P d,i.size,kI P t,dn P (gi d),kI P (gi d),nw P (gi d),nw P t,kh P t,bu P t,ln P (gi d)⟩
 | _,_=>none
noncomputable def agg:TK->Bool
 | .st _=>true
 | .ar _ _=>true
 | _=>false
noncomputable def qu:V->Option Nat
 | .c (.int _ (.ofNat n))=>some n
 | _=>none
noncomputable def gO:Option V->Nat->Option Nat
 | none,d=>some d
 | some v,_=>qu v
noncomputable def no {β:Type} (n:Nat):X β:=.e n none
section ops
variable {β:Type} (T:Tr TI) (env:Tr V) (h:Tr Ob)
noncomputable def ev:uG->Option V
 | .tmp t=>env.get t
 | .const v=>some (tH v)
 | .global _=>none
 | .func f=>some (.f f [])
noncomputable def aL (x:uG) (k:V->X β):X β:=match x with
 | .tmp t=>Option.rec (no 19) (λv=>k v) (env.get t)
 | .const v=>fV (tH v) k
 | .global _=>no 18
 | .func f=>k (.f f [])
noncomputable def kJ:List uG->(List V->X β)->X β
 | [],k=>k []
 | x::l,k=>aL env x λv=>kJ l λl=>k (v::l)
noncomputable def ci (j:IntKind) (n:Int) (k:V->X β):X β:=fI n λn=>k (.c (.int j n))
noncomputable def cb (b:Bool) (k:V->X β):X β:=fB b λb=>k (.c (.bool b))
noncomputable def ny (op:BinOp) (j:IntKind) (a b:Int) (k:V->X β):X β:=match op with
 | .add=>ci j (j.wrap (a+b)) k
 | .sub=>ci j (j.wrap (a-b)) k
 | .mul=>ci j (j.wrap (a*b)) k
 | .quo=>match decide (b=0) with
  | true=>no 20
  | false=>ci j (j.wrap (a.tdiv b)) k
 | .rem=>match decide (b=0) with
  | true=>no 21
  | false=>ci j (a.tmod b) k
 | .lss=>cb (decide (a<b)) k
 | .leq=>cb (decide (a<=b)) k
 | .gtr=>cb (decide (a > b)) k
 | .geq=>cb (decide (a>=b)) k
 | .eql=>cb (decide (a=b)) k
 | .neq=>cb (!decide (a=b)) k
 | .and=>ci j (j.wrap ((BitVec.ofInt j.bits a &&& BitVec.ofInt j.bits b).toNat:Int)) k
 | .or=>ci j (j.wrap ((BitVec.ofInt j.bits a ||| BitVec.ofInt j.bits b).toNat:Int)) k
 | .xor=>ci j (j.wrap ((BitVec.ofInt j.bits a ^^^ BitVec.ofInt j.bits b).toNat:Int)) k
 | .andNot=>ci j (j.wrap ((BitVec.ofInt j.bits a &&& ~~~ BitVec.ofInt j.bits b).toNat:Int)) k
 | .shl=>match decide (b<0) with
  | true=>no 22
  | false=>ci j (j.wrap (a*2 ^ (min b.toNat j.bits))) k
 | .shr=>match decide (b<0) with
  | true=>no 23
  | false=>ci j (a.fdiv (2 ^ (min b.toNat j.bits))) k
noncomputable def oL:List Nat->List Nat->Bool
 | [],[]=>true
 | a::l,b::m=>match Nat.beq a b with
  | true=>oL l m
  | false=>false
 | _,_=>false
noncomputable def tI:List Nat->List Nat->Bool
 | _,[]=>false
 | [],_::_=>true
 | a::l,b::m=>match Nat.ble (a+1) b with
  | true=>true
  | false=>match Nat.beq a b with
   | true=>tI l m
   | false=>false
noncomputable def tJ (op:BinOp) (a b:List Nat) (k:V->X β):X β:=match op with
 | .add=>match Nat.ble (a.length+b.length) 9223372036854775807 with
  | true=>lk a b λl=>k (.s l)
  | false=>no 9
 | .eql=>cb (oL a b) k
 | .neq=>cb (!oL a b) k
 | .lss=>cb (tI a b) k
 | .leq=>cb (tI a b || oL a b) k
 | .gtr=>cb (!(tI a b || oL a b)) k
 | .geq=>cb (!tI a b) k
 | _=>no 24
noncomputable def tK:uB->uB->Option Bool
 | .bool a,.bool b=>some (a==b)
 | .int j a,.int k b=>match decide (j=k) with
  | true=>some (decide (a=b))
  | false=>none
 | _,_=>none
noncomputable def tL:V->V->Option Bool
 | .c a,.c b=>tK a b
 | .s a,.s b=>some (oL a b)
 | _,_=>none
noncomputable def eqs:List V->List V->Option Bool
 | [],[]=>some true
 | a::l,b::m=>match tL a b with
  | some true=>eqs l m
  | r=>r
 | _,_=>none
noncomputable def eR (t:TK) (x:V):Option Bool:=match t with
 | .pt=>match x with
  | .c (.pointer none)=>some true
  | .p _ _=>some false
  | _=>none
 | .sl _=>match x with
  | .c (.slice none _ _)=>some true
  | .l _ _ _ _=>some false
  | .z=>some false
  | _=>none
 | .mp _ _=>match x with
  | .c (.map none)=>some true
  | .m _=>some false
  | _=>none
 | .fn=>match x with
  | .c .nilFunc=>some true
  | .f _ _=>some false
  | .y _=>some false
  | _=>none
 | _=>none
noncomputable def tM:FK->V->Bool
 | .i k,.c (.int k' _)=>decide (k=k')
 | .b,.c (.bool _)=>true
 | .s,.s _=>true
 | _,_=>false
noncomputable def fits:List FK->List V->Bool
 | [],[]=>true
 | k::ks,v::vs=>match tM k v with
  | true=>fits ks vs
  | false=>false
 | _,_=>false
noncomputable def zz (t:Nat) (xs ys:List V):Option Bool:=match T.get t with
 | some i=>match i.fk with
  | some ks=>match fits ks xs with
   | true=>match fits ks ys with
    | true=>eqs xs ys
    | false=>none
   | false=>none
  | none=>none
 | none=>none
noncomputable def fR (op:BinOp) (b:Bool) (k:V->X β):X β:=match op with
 | .eql=>cb b k
 | .neq=>cb (!b) k
 | _=>no 27
noncomputable def tN (op:BinOp) (t:Nat) (x y:V) (k:V->X β):X β:=match T.get t with
 | some i=>match eR i.k x with
  | some a=>match eR i.k y with
   | some b=>match a with
    | true=>fR op b k
    | false=>match b with
     | true=>fR op false k
     | false=>no 14
   | none=>no 15
  | none=>no 16
 | none=>no 8
noncomputable def bin (op:BinOp) (t:Nat) (x y:V) (k:V->X β):X β:=match x with
 | .c (.int j a)=>match y with
  | .c (.int j' b)=>match decide (j=j') with
   | true=>ny op j a b k
   | false=>match op with
    | .shl=>ny op j a b k
    | .shr=>ny op j a b k
    | _=>no 13
  | _=>no 25
 | .c (.bool a)=>match y with
  | .c (.bool b)=>match T.get t with
   | some i=>match i.k with
    | .bool=>fR op (a==b) k
    | _=>no 12
   | none=>no 11
  | _=>no 10
 | .s a=>match y with
  | .s b=>tJ op a b k
  | _=>no 26
 | .a xs=>match y with
  | .a ys=>match zz T t xs ys with
   | some b=>fR op b k
   | none=>no 28
  | _=>no 17
 | x=>tN T op t x y k
noncomputable def un (op:UnOp) (x:V) (k:V->X β):X β:=match op with
 | .not=>match x with
  | .c (.bool b)=>cb (!b) k
  | _=>no 29
 | .neg=>match x with
  | .c (.int j n)=>ci j (j.wrap (0-n)) k
  | _=>no 30
 | _=>no 31
noncomputable def row (o:Nat):Option (List V):=match h.get o with
 | some (.c _ _ cs)=>some cs
 | some (.k cs)=>some cs
 | _=>none
noncomputable def nz (o off n:Nat) (k:List V->X β):X β:=match row h o with
 | some cs=>match Nat.ble (off+n) cs.length with
  | true=>kl off cs λl=>kj n l k
  | false=>no 32
 | none=>no 33
noncomputable def km (t:Nat) (x:V) (k:V->X β):X β:=match x with
 | .p o off=>match T.get t with
  | some i=>match i.g with
   | 0=>match row h o with
    | some cs=>match nth cs off with
     | some v=>k v
     | none=>no 34
    | none=>no 35
   | _+1=>nz h o off i.sz λl=>k (.a l)
  | none=>no 36
 | _=>no 37
noncomputable def part (g sz:Nat) (cs:List V) (off:Nat) (k:V->X β):X β:=match g with
 | 0=>match nth cs off with
  | some v=>k v
  | none=>no 38
 | _+1=>kl off cs λl=>kj sz l λl=>k (.a l)
noncomputable def place (t:TI) (i:Nat):Option (Nat×Nat):=match t.k with
 | .st fs=>match nth fs i with
  | some (off,_,sz)=>some (off,sz)
  | none=>none
 | _=>some (i*t.ez,t.ez)
noncomputable def fill (t:TI):List (Nat×uG)->List V->(List V->X β)->X β
 | [],cs,k=>k cs
 | (i,x)::rest,cs,k=>match place t i with
  | some (off,sz)=>aL env x λv=>match cells v with
   | some vs=>match Nat.beq vs.length sz && Nat.ble (off+sz) cs.length with
    | true=>ki vs off cs λcs=>fill t rest cs k
    | false=>no 39
   | none=>no 40
  | none=>no 41
noncomputable def src (sz:Nat) (x:V) (k:Nat->List V->X β):X β:=match x with
 | .s l=>match Nat.beq sz 1 with
  | true=>ll (λb k=>k (.c (.int .u8 (.ofNat b)))) l λcs=>oK l 0 λn=>k n cs
  | false=>no 43
 | .c (.slice none 0 0)=>k 0 []
 | .z=>k 0 []
 | .l o off n _=>nz h o off (n*sz) λcs=>k n cs
 | _=>no 42
noncomputable def jR (x y:V):Option Bool:=match x with
 | .a xs=>match y with
  | .a ys=>eqs xs ys
  | _=>none
 | x=>tL x y
noncomputable def gP (t:Nat) (x:V):Bool:=match T.get t with
 | some i=>match x with
  | .c (.int _ _)=>match i.k with
   | .int _=>true
   | _=>false
  | .s _=>match i.k with
   | .str=>true
   | _=>false
  | .a cs=>match i.k with
   | .st _=>match i.fq with
    | some ks=>fits ks cs
    | none=>false
   | _=>false
  | _=>false
 | none=>false
noncomputable def c5 (t:Nat) (x:V):List (V×Nat×V)->Bool
 | []=>true
 | (y,_,_)::es=>match gP T t y with
  | true=>match jR x y with
   | some _=>c5 t x es
   | none=>false
  | false=>false
noncomputable def fS (t:Nat) (x:V) (es:List (V×Nat×V)):Bool:=match gP T t x with
 | true=>c5 T t x es
 | false=>false
noncomputable def kn (x:V):List (V×Nat×V)->Option (Nat×V)
 | []=>none
 | (y,b,v)::es=>match jR x y with
  | some true=>some (b,v)
  | _=>kn x es
noncomputable def oM (x v:V) (ck:Nat):List (V×Nat×V)->(List (V×Nat×V)->Nat->X β)->X β
 | [],k=>fN (Nat.succ ck) λc=>k [(x,ck,v)] c
 | (y,b,u)::es,k=>match jR x y with
  | some true=>k ((x,b,v)::es) ck
  | _=>oM x v ck es λes c=>k ((y,b,u)::es) c
noncomputable def qV (x:V):List (V×Nat×V)->(List (V×Nat×V)->X β)->X β
 | [],k=>k []
 | (y,b,u)::es,k=>match jR x y with
  | some true=>k es
  | _=>qV x es λes=>k ((y,b,u)::es)
noncomputable def jr (b:Nat) (v:V):List (V×Nat×V)->(List (V×Nat×V)->X β)->X β
 | [],_=>no 45
 | (y,c,u)::es,k=>match Nat.beq b c with
  | true=>k ((y,c,v)::es)
  | false=>jr b v es λes=>k ((y,c,u)::es)
end ops
end Go.CI
namespace Go.CI
section op
variable {β:Type} (T:Tr TI) (env:Tr V)
noncomputable def oN (c:V) (a b:uG) (k:V->X β):X β:=match c with
 | .c (.bool true)=>aL env a k
 | .c (.bool false)=>aL env b k
 | _=>no 50
noncomputable def lq (t:Nat) (ps:List (Nat×uG)) (k:V->X β):X β:=match T.get t with
 | some i=>match agg i.k with
  | true=>match cells i.z with
   | some z=>fill env i ps z λcs=>k (.a cs)
   | none=>no 51
  | false=>no 48
 | none=>no 52
noncomputable def qW (x:V) (k:V->X β):X β:=match x with
 | .p o i=>k (.p o i)
 | .f g cs=>k (.f g cs)
 | .y o=>k (.y o)
 | _=>no 53
noncomputable def js (s:Nat) (x:V) (f:Nat) (k:V->X β):X β:=match x with
 | .p o off=>match T.get s with
  | some i=>match i.k with
   | .st fs=>match nth fs f with
    | some (d,_,sz)=>match Nat.ble 1 sz with
     | true=>fN (off+d) λd=>k (.p o d)
     | false=>no 53
    | none=>no 54
   | _=>no 55
  | none=>no 56
 | _=>no 57
noncomputable def lr (s:Nat) (x:V) (f:Nat) (k:V->X β):X β:=match x with
 | .a cs=>match T.get s with
  | some i=>match i.k with
   | .st fs=>match nth fs f with
    | some (d,g,sz)=>part g sz cs d k
    | none=>no 58
   | _=>no 59
  | none=>no 60
 | _=>no 61
noncomputable def oO (t:Nat) (x y:V) (k:V->X β):X β:=match qu y with
 | some j=>match T.get t with
  | some i=>match x with
   | .l o off n _=>match i.k with
    | .sl _=>match Nat.ble (j+1) n with
     | true=>fN (off+j*i.ez) λd=>k (.p o d)
     | false=>no 62
    | _=>no 63
   | .p o off=>match i.k with
    | .ar n _=>match Nat.ble (j+1) n with
     | true=>fN (off+j*i.ez) λd=>k (.p o d)
     | false=>no 64
    | _=>no 65
   | _=>no 66
  | none=>no 67
 | none=>no 68
noncomputable def tO (t:Nat) (x y:V) (k:V->X β):X β:=match qu y with
 | some j=>match x with
  | .s l=>match T.get t with
   | some i=>match i.k with
    | .str=>match nth l j with
     | some b=>k (.c (.int .u8 (.ofNat b)))
     | none=>no 69
    | _=>no 49
   | none=>no 47
  | .a cs=>match T.get t with
   | some i=>match i.k with
    | .ar n e=>match Nat.ble (j+1) n with
     | true=>part i.eg i.ez cs (j*i.ez) k
     | false=>no 70
    | _=>no 71
   | none=>no 72
  | _=>no 73
 | none=>no 74
noncomputable def mf (t:Nat) (x:V) (k:V->X β):X β:=match T.get t with
 | some i=>match i.k with
  | .int j=>match x with
   | .c (.int _ n)=>ci j (j.wrap n) k
   | _=>no 75
  | .str=>match x with
   | .s l=>k (.s l)
   | _=>no 76
  | _=>no 77
 | none=>no 78
noncomputable def tP (x:V) (i:Nat) (k:V->X β):X β:=match x with
 | .t cs=>match nth cs i with
  | some v=>k v
  | none=>no 79
 | _=>no 80
noncomputable def mm (b:Bool) (x y:V) (k:V->X β):X β:=match x with
 | .c (.int j m)=>match y with
  | .c (.int _ n)=>match b with
   | true=>match decide (n<m) with
    | true=>k (.c (.int j n))
    | false=>k (.c (.int j m))
   | false=>match decide (n > m) with
    | true=>k (.c (.int j n))
    | false=>k (.c (.int j m))
  | _=>no 81
 | _=>no 82
noncomputable def xo (b:Bool):List V->V->(V->X β)->X β
 | [],x,k=>k x
 | y::l,x,k=>mm b x y λz=>xo b l z k
noncomputable def xp (b:Bool):List V->(V->X β)->X β
 | [],_=>no 83
 | x::l,k=>xo b l x k
noncomputable def tQ (l:List V) (k:V->X β):X β:=match l with
 | [.l _ _ _ (some c)]=>k (cI (.ofNat c))
 | [.c (.slice none 0 0)]=>k (cI 0)
 | _=>no 84
noncomputable def tR (t:TK) (h:Tr Ob) (x:V) (k:V->X β):X β:=match x with
 | .s l=>match t with
  | .str=>oK l 0 λn=>k (cI (.ofNat n))
  | _=>no 86
 | .l _ _ n _=>match t with
  | .sl _=>k (cI (.ofNat n))
  | _=>no 85
 | .c (.slice none 0 0)=>match t with
  | .sl _=>k (cI 0)
  | _=>no 84
 | .z=>match t with
  | .sl _=>k (cI 0)
  | _=>no 81
 | .c (.map none)=>match t with
  | .mp _ _=>k (cI 0)
  | _=>no 83
 | .m o=>match t with
  | .mp _ _=>match h.get o with
   | some (.m es _)=>oK es 0 λn=>k (cI (.ofNat n))
   | _=>no 87
  | _=>no 82
 | _=>no 88
noncomputable def qX (h:Tr Ob) (o off n ez b:Nat):Option Nat->Bool
 | some c=>Nat.ble b c
 | none=>match h.get o with
  | some (.c _ sz cs)=>match Nat.beq sz ez with
   | true=>match Nat.ble b n with
    | true=>true
    | false=>match Nat.ble 1 ez with
     | true=>Nat.ble (off+b*ez) cs.length
     | false=>false
   | false=>false
  | _=>false
noncomputable def wg (l:List Nat) (lo hi:Option V) (k:V->X β):X β:=match gO lo 0 with
 | some a=>match gO hi l.length with
  | some b=>match Nat.ble a b && Nat.ble b l.length with
   | true=>kl a l λl=>kj (b-a) l λl=>k (.s l)
   | false=>no 89
  | none=>no 90
 | none=>no 91
noncomputable def xq (o off a b m ez:Nat) (k:V->X β):X β:=match Nat.beq m a with
 | true=>k (.l o off 0 (some 0))
 | false=>fN (off+a*ez) λoff=>fN (b-a) λn=>fN (m-a) λc=>k (.l o off n (some c))
noncomputable def qY (h:Tr Ob) (ez o off n:Nat) (c:Option Nat) (lo hi mx:Option V) (k:V->X β):X β:=match gO lo 0 with
 | some a=>match gO hi n with
  | some b=>match Nat.ble a b with
   | true=>match mx with
    | none=>match qX h o off n ez b c with
     | true=>match c with
      | some c=>xq o off a b c ez k
      | none=>match Nat.beq a b with
       | true=>k .z
       | false=>fN (off+a*ez) λoff=>fN (b-a) λn=>k (.l o off n none)
     | false=>no 94
    | some m=>match hi with
     | none=>no 91
     | some _=>match qu m with
      | some m=>match Nat.ble b m with
       | true=>match qX h o off n ez m c with
        | true=>xq o off a b m ez k
        | false=>no 92
       | false=>no 90
      | none=>no 93
   | false=>no 89
  | none=>no 95
 | none=>no 96
noncomputable def yv (h:Tr Ob) (t:Nat) (x:V) (lo hi mx:Option V) (k:V->X β):X β:=match T.get t with
 | some i=>match i.k with
  | .str=>match x with
   | .s l=>match mx with
    | none=>wg l lo hi k
    | some _=>no 97
   | _=>no 98
  | .sl _=>match x with
   | .l o off n c=>qY h i.ez o off n c lo hi mx k
   | .c (.slice none 0 0)=>match mx with
    | none=>match gO lo 0 with
     | some 0=>match gO hi 0 with
      | some 0=>k (.c (.slice none 0 0))
      | _=>no 99
     | _=>no 100
    | some _=>no 97
   | .z=>match mx with
    | none=>match gO lo 0 with
     | some 0=>match gO hi 0 with
      | some 0=>k .z
      | _=>no 96
     | _=>no 95
    | some _=>no 94
   | _=>no 101
  | .ar n _=>match x with
   | .p o off=>qY h i.ez o off n (some n) lo hi mx k
   | _=>no 102
  | _=>no 103
 | none=>no 104
noncomputable def zk (v:V) (k:V->X β):X β:=match v with
 | .t _=>no 111
 | v=>k v
noncomputable def oP (h:Tr Ob) (t:Nat) (x y:V) (ok:Bool) (k:V->X β):X β:=match T.get t with
 | some i=>match i.k with
  | .mp kt _=>match x with
   | .m o=>match h.get o with
    | some (.m es _)=>match fS T kt y es with
     | true=>match kn y es with
      | some (_,v)=>match ok with
       | true=>k (.t [v,cB true])
       | false=>k v
      | none=>zk i.ev λz=>match ok with
       | true=>k (.t [z,cB false])
       | false=>k z
     | false=>no 105
    | _=>no 106
   | .c (.map none)=>match gP T kt y with
    | true=>zk i.ev λz=>match ok with
     | true=>k (.t [z,cB false])
     | false=>k z
    | false=>no 107
   | _=>no 107
  | _=>no 108
 | none=>no 109
noncomputable def zA (c:V) (k:Nat->X β):X β:=match c with
 | .c (.int .u8 (.ofNat n))=>match Nat.ble n 255 with
  | true=>k n
  | false=>no 105
 | _=>no 110
noncomputable def oQ (h:Tr Ob) (x:V) (k:V->X β):X β:=match x with
 | .s _=>no 104
 | x=>src h 1 x λ_ cs=>bs cs λl=>k (.s l)
where bs:List V->(List Nat->X β)->X β
 | [],k=>k []
 | c::l,k=>zA c λn=>bs l λl=>k (n::l)
noncomputable def sr (x:Option uG) (k:Option V->X β):X β:=match x with
 | none=>k none
 | some x=>aL env x λv=>k (some v)
noncomputable def lu (nx t:Nat) (k:V->Ob->X β):X β:=match T.get t with
 | some i=>match cells i.z with
  | some cs=>fN i.sz λs=>k (.p nx 0) (.c t s cs)
  | none=>no 113
 | none=>no 114
noncomputable def tS (nx t:Nat) (v:V) (k:V->Ob->X β):X β:=match T.get t with
 | some i=>match cells v with
  | some cs=>fN i.sz λs=>k (.p nx 0) (.c t s cs)
  | none=>no 115
 | none=>no 116
noncomputable def tT (nx t n:Nat) (ps:List (Nat×uG)) (k:V->Ob->X β):X β:=match T.get t with
 | some i=>match i.k with
  | .sl e=>match cells i.ev with
   | some z=>match Nat.ble (n*i.ez) 16777216 with
    | true=>oJ z n λcs=>fill env i ps cs λcs=>fN i.ez λs=>k (.l nx 0 n (some n)) (.c e s cs)
    | false=>no 115
   | none=>no 117
  | _=>no 118
 | none=>no 119
noncomputable def oR (nx t:Nat) (l c:V) (k:V->Ob->X β):X β:=match T.get t with
 | some i=>match i.k with
  | .sl e=>match qu l with
   | some n=>match qu c with
    | some c=>match Nat.ble n c with
     | true=>match cells i.ev with
      | some z=>match Nat.ble c 9223372036854775807 && Nat.ble (c*i.eb) 281474976710656 with
       | false=>no 119
       | true=>oJ z c λcs=>fN n λn=>fN c λc=>fN i.ez λs=>k (.l nx 0 n (some c)) (.c e s cs)
      | none=>no 120
     | false=>no 121
    | none=>no 122
   | none=>no 123
  | _=>no 124
 | none=>no 125
noncomputable def lv (nx t:Nat) (x:V) (k:V->Ob->X β):X β:=match T.get t with
 | some i=>match i.k with
  | .sl e=>match x with
   | .s l=>oK l 0 λn=>ll (λb k=>k (.c (.int .u8 (.ofNat b)))) l λcs=>k (.l nx 0 n none) (.c e 1 cs)
   | _=>no 126
  | _=>no 127
 | none=>no 128
noncomputable def lx (nx:Nat) (x:V) (k:V->Ob->X β):X β:=match x with
 | .s l=>k (.p nx 0) (.i l 0)
 | _=>no 129
noncomputable def sv (o off:Nat) (new:List V) (h:Tr Ob) (k:Tr Ob->X β):X β:=match new with
 | []=>k h
 | _=>match h.get o with
  | some (.c ty sz cs)=>match Nat.ble (off+new.length) cs.length with
   | true=>ki new off cs λcs=>Tr.set 64 h o (.c ty sz cs) k
   | false=>no 131
  | _=>no 132
noncomputable def oS (e sz eb n:Nat) (old new:List V) (nx:Nat) (h:Tr Ob) (k:V->Nat->Tr Ob->X β):X β:=match Nat.ble n 4611686018427387904 && Nat.ble (n*eb) 140737488355328 with
 | false=>no 129
 | true=>lk old new λcs=>Tr.set 64 h nx (.c e sz cs) λh=>fN n λn=>fN (nx+1) λav=>k (.l nx 0 n none) av h
noncomputable def nA (s:V) (e sz eb:Nat) (n:Nat) (new:List V) (nx:Nat) (h:Tr Ob) (k:V->Nat->Tr Ob->X β):X β :=
 match s with
 | .z=>match n with
  | 0=>k .z nx h
  | _=>no 130
 | .c (.slice none 0 0)=>match n with
  | 0=>k (.c (.slice none 0 0)) nx h
  | _=>oS e sz eb n [] new nx h k
 | .l o off m c=>match n with
  | 0=>k (.l o off m c) nx h
  | _=>match c with
   | some c=>match Nat.ble (m+n) c with
    | true=>sv o (off+m*sz) new h λh=>fN (m+n) λn=>k (.l o off n (some c)) nx h
    | false=>nz h o off (m*sz) λold=>oS e sz eb (m+n) old new nx h k
   | none=>match h.get o with
    | some (.c _ s cs)=>match Nat.beq s sz && Nat.ble 1 sz with
     | true=>match Nat.ble (off+(m+n)*sz) cs.length with
      | true=>sv o (off+m*sz) new h λh=>fN (m+n) λn=>k (.l o off n none) nx h
      | false=>nz h o off (m*sz) λold=>Tr.set 64 h o .g λh=>oS e sz eb (m+n) old new nx h k
     | false=>no 132
    | _=>no 133
 | _=>no 134
noncomputable def mh (ts:List Nat) (s x:V) (nx:Nat) (h:Tr Ob) (k:V->Nat->Tr Ob->X β):X β:=match ts with
 | [t,u]=>match T.get t with
  | some i=>match i.k with
   | .sl e=>match cells i.ev with
    | some z=>match T.get u with
     | some j=>match j.k with
      | .int _=>match x with
       | .c (.int _ (.ofNat n))=>match Nat.ble n 4611686018427387904 && Nat.ble (n*i.eb) 140737488355328 with
        | true=>oJ z n λnew=>nA s e i.ez i.eb n new nx h k
        | false=>no 134
       | _=>no 135
      | .sl _=>src h i.ez x λn new=>nA s e i.ez i.eb n new nx h k
      | .str=>src h i.ez x λn new=>nA s e i.ez i.eb n new nx h k
      | _=>no 136
     | none=>no 137
    | none=>no 135
   | _=>no 136
  | none=>no 137
 | _=>no 138
noncomputable def sw (ts:List Nat) (d s:V) (nx:Nat) (h:Tr Ob) (k:V->Nat->Tr Ob->X β):X β:=match ts with
 | t::_=>match T.get t with
  | some i=>match i.k with
   | .sl _=>src h i.ez s λn cs=>match d with
    | .c (.slice none 0 0)=>k (cI 0) nx h
    | .z=>k (cI 0) nx h
    | .l o off m _=>match Nat.ble n m with
     | true=>sv o off cs h λh=>k (cI (.ofNat n)) nx h
     | false=>kj (m*i.ez) cs λcs=>sv o off cs h λh=>k (cI (.ofNat m)) nx h
    | _=>no 139
   | _=>no 138
  | none=>no 140
 | _=>no 141
noncomputable def oT (ts:List Nat) (x:V) (nx:Nat) (h:Tr Ob) (k:V->Nat->Tr Ob->X β):X β:=match ts with
 | t::_=>match T.get t with
  | some i=>match i.k with
   | .sl _=>match x with
    | .c (.slice none 0 0)=>k (.t []) nx h
    | .z=>k (.t []) nx h
    | .l o off n _=>match cells i.ev with
     | some z=>oJ z n λcs=>sv o off cs h λh=>k (.t []) nx h
     | none=>no 142
    | _=>no 143
   | _=>no 141
  | none=>no 144
 | _=>no 145
noncomputable def ko (t:Nat) (k:Nat->X β):X β:=match T.get t with
 | some i=>match i.k with
  | .mp kt _=>k kt
  | _=>no 151
 | none=>no 152
noncomputable def oU (t:Nat) (m x v:V) (h:Tr Ob) (k:Tr Ob->X β):X β:=match m with
 | .m o=>match h.get o with
  | some (.m es ck)=>ko T t λkt=>match fS T kt x es with
   | true=>oM x v ck es λes ck=>Tr.set 64 h o (.m es ck) k
   | false=>no 145
  | _=>no 146
 | _=>no 147
noncomputable def wh (t:Nat) (m x:V) (h:Tr Ob) (k:Tr Ob->X β):X β:=match m with
 | .m o=>match h.get o with
  | some (.m es ck)=>ko T t λkt=>match fS T kt x es with
   | true=>qV x es λes=>Tr.set 64 h o (.m es ck) k
   | false=>no 144
  | _=>no 148
 | .c (.map none)=>ko T t λkt=>match gP T kt x with
  | true=>k h
  | false=>no 143
 | _=>no 149
noncomputable def ly (t:Nat) (m x:V) (nx:Nat) (h:Tr Ob) (k:V->Nat->Tr Ob->X β):X β:=match T.get t with
 | some i=>match i.k with
  | .mp kt _=>match m with
   | .m o=>match h.get o with
    | some (.m es ck)=>match fS T kt x es with
     | true=>match kn x es with
      | some (b,v)=>k (.t [v,cI (.ofNat b)]) nx h
      | none=>zk i.ev λz=>lk es [(x,ck,z)] λes=>fN (Nat.succ ck) λc=>Tr.set 64 h o (.m es c) λh=>k (.t [z,cI (.ofNat ck)]) nx h
     | false=>no 150
    | _=>no 151
   | _=>no 152
  | _=>no 154
 | none=>no 153
noncomputable def lz (m x v:V) (h:Tr Ob) (k:Tr Ob->X β):X β:=match m with
 | .m o=>match h.get o with
  | some (.m es ck)=>match qu x with
   | some b=>jr b v es λes=>Tr.set 64 h o (.m es ck) k
   | none=>no 162
  | _=>no 163
 | _=>no 164
noncomputable def lA (t:Nat) (x v:V) (nx:Nat) (h:Tr Ob) (k:V->Nat->Tr Ob->X β):X β:=match x with
 | .p o off=>match T.get t with
  | some i=>match cells v with
   | some cs=>match Nat.beq cs.length i.sz with
    | true=>sv o off cs h λh=>k undef nx h
    | false=>no 153
   | none=>no 154
  | none=>no 156
 | _=>no 155
noncomputable def oV (x:V) (nx:Nat) (h:Tr Ob) (k:V->Nat->Tr Ob->X β):X β:=match x with
 | .p o 0=>match h.get o with
  | some (.i s pos)=>match nth s pos with
   | some b=>match Nat.ble b 127 with
    | true=>fN (Nat.succ pos) λq=>Tr.set 64 h o (.i s q) λh=>k (.t [cB true,cI (.ofNat pos),.c (.int .i32 (.ofNat b))]) nx h
    | false=>no 210
   | none=>k (.t [cB false]) nx h
  | _=>no 211
 | _=>no 212
noncomputable def qZ (b:Builtin) (ts:List Nat) (l:List V) (nx:Nat) (h:Tr Ob) (k:V->Nat->Tr Ob->X β):X β:=match b with
 | .append=>match l with
  | [s,x]=>mh T ts s x nx h k
  | _=>no 156
 | .copy=>match l with
  | [d,s]=>sw T ts d s nx h k
  | _=>no 157
 | .clear=>match l with
  | [x]=>oT T ts x nx h k
  | _=>no 158
 | .delete=>match l with
  | [m,x]=>match ts with
   | t::_=>wh T t m x h λh=>k (.t []) nx h
   | _=>no 142
  | _=>no 159
 | _=>no 160
end op
inductive Cf where
 | k (todo:List Item)
 | o (l rest:List Oper) (todo:List Item)
structure Cx where
 fn:Nat
 ro:Option Nat
 n:Nat
 dk:Bool
inductive Df where
 | c (g:Nat) (cs:List V)
 | m (o:Nat)
structure FZ where
 cf:Cf
 env:Tr V
 nx:Nat
 h:Tr Ob
 ds:List Df
inductive S1 where
 | go (s:FZ)
 | fin (v:V) (nx:Nat) (h:Tr Ob)
inductive Ac where
 | pu (g:Tr V->(V->X S1)->X S1)
 | rd (g:Tr V->Tr Ob->(V->X S1)->X S1)
 | al (g:Tr V->Nat->(V->Ob->X S1)->X S1)
 | ef (g:Tr V->Nat->Tr Ob->(V->Nat->Tr Ob->X S1)->X S1)
 | ca (f:uG) (xs:List uG)
 | df (f:uG)
 | no (n:Nat)
section act
variable (T:Tr TI)
noncomputable def fw (b:Builtin) (l:List uG) (ts:List Nat):Ac:=match b with
 | .len=>match l with
  | [x]=>match ts with
   | t::_=>match T.get t with
    | some i=>.rd λenv h k=>aL env x λx=>tR i.k h x k
    | none=>.no 107
   | []=>.no 106
  | _=>.no 111
 | .cap=>match ts with
  | t::_=>match T.get t with
   | some i=>match i.k with
    | .sl _=>.pu λenv k=>kJ env l λl=>tQ l k
    | _=>.no 110
   | none=>.no 109
  | []=>.no 108
 | .min=>.pu λenv k=>kJ env l λl=>xp true l k
 | .max=>.pu λenv k=>kJ env l λl=>xp false l k
 | b=>.ef λenv nx h k=>kJ env l λl=>qZ T b ts l nx h k
noncomputable def xr (e:Nat):Bool:=match T.get e with
 | some i=>match i.k with
  | .int .u8=>true
  | _=>false
 | none=>false
noncomputable def fy (s t:Nat) (x:uG):Ac:=match T.get t with
 | some i=>match i.k with
  | .sl e=>match xr T e with
   | true=>match T.get s with
    | some j=>match j.k with
     | .str=>.al λenv nx k=>aL env x λx=>lv T nx t x k
     | _=>.no 103
    | none=>.no 104
   | false=>.no 102
  | .str=>match T.get s with
   | some j=>match j.k with
    | .sl e=>match xr T e with
     | true=>.rd λenv h k=>aL env x λx=>oQ h x k
     | false=>.no 101
    | .str=>.pu λenv k=>aL env x λx=>mf T t x k
    | _=>.no 100
   | none=>.no 112
  | _=>match T.get s with
   | some j=>match j.k with
    | .int _=>.pu λenv k=>aL env x λx=>mf T t x k
    | _=>.no 99
   | none=>.no 98
 | none=>.no 113
noncomputable def act (o:Op):Ac:=match o with
 | .move x=>.pu λenv k=>aL env x k
 | .assign x=>.pu λenv k=>aL env x k
 | .pick c a b=>.pu λenv k=>aL env c λc=>oN env c a b k
 | .build t ps=>.pu λenv k=>lq T env t ps.toList k
 | .nilCheck x=>.pu λenv k=>aL env x λx=>qW x k
 | .binOp op t x y _=>.pu λenv k=>aL env x λx=>aL env y λy=>bin T op t x y k
 | .unOp op _ x=>.pu λenv k=>aL env x λx=>un op x k
 | .convert s t x=>fy T s t x
 | .makeFunc (.func f) fs cs=>match fs.toList with
  | []=>.pu λenv k=>kJ env cs.toList λcs=>k (.f f cs)
  | _=>.no 85
 | .fieldAddr s x f=>.pu λenv k=>aL env x λx=>js T s x f k
 | .field s x f=>.pu λenv k=>aL env x λx=>lr T s x f k
 | .indexAddr t x i=>.pu λenv k=>aL env x λx=>aL env i λi=>oO T t x i k
 | .index t x i=>.pu λenv k=>aL env x λx=>aL env i λi=>tO T t x i k
 | .extract x i=>.pu λenv k=>aL env x λx=>tP x i k
 | .load t x=>.rd λenv h k=>aL env x λx=>km T h t x k
 | .slice t x lo hi mx=>.rd λenv h k=>aL env x λx=>sr env lo λlo=>sr env hi λhi=>sr env mx λmx=>yv T h t x lo hi mx k
 | .lookup t x i ok=>.rd λenv h k=>aL env x λx=>aL env i λi=>oP T h t x i ok k
 | .alloc t=>.al λenv nx k=>lu T nx t k
 | .box t x=>.al λenv nx k=>aL env x λx=>tS T nx t x k
 | .buildSlice t n ps=>.al λenv nx k=>tT T env nx t n ps.toList k
 | .makeMap t n=>match n with
  | none=>.al λ_ nx k=>k (.m nx) (.m [] 0)
  | some x=>match T.get t with
   | some i=>match i.k with
    | .mp _ _=>.al λenv nx k=>aL env x λx=>match x with
     | .c (.int _ _)=>k (.m nx) (.m [] 0)
     | _=>no 119
    | _=>.no 120
   | none=>.no 121
 | .makeSlice t l c=>.al λenv nx k=>aL env l λl=>aL env c λc=>oR T nx t l c k
 | .range t x=>match T.get t with
  | some i=>match i.k with
   | .str=>.al λenv nx k=>aL env x λx=>lx nx x k
   | _=>.no 105
  | none=>.no 106
 | .store t x y=>.ef λenv nx h k=>aL env x λx=>aL env y λy=>lA T t x y nx h k
 | .mapUpdate t m x v=>.ef λenv nx h k=>aL env v λv=>aL env x λx=>aL env m λm=>oU T t m x v h λh=>k undef nx h
 | .insert t m x v=>.ef λenv nx h k=>aL env v λv=>aL env x λx=>aL env m λm=>oU T t m x v h λh=>k undef nx h
 | .mapEntry t m x=>.ef λenv nx h k=>aL env x λx=>aL env m λm=>ly T t m x nx h k
 | .entryStore _ m x v=>.ef λenv nx h k=>aL env v λv=>aL env x λx=>aL env m λm=>lz m x v h λh=>k undef nx h
 | .next x true=>.ef λenv nx h k=>aL env x λx=>oV x nx h k
 | .call ⟨f,xs,ts⟩=>match f with
  | .builtin b=>fw T b xs.toList ts.toList
  | .value f=>.ca f xs.toList
  | _=>.no 114
 | .defer ⟨f,xs,_⟩=>match f with
  | .value f=>match xs.toList with
   | []=>.df f
   | _=>.no 115
  | _=>.no 116
 | _=>.no 117
end act
section fr
variable {β:Type} (T:Tr TI) (F:Tr Func) (E:Nat->Option (List V->Tr Ob->(V->X S1)->X S1)) (run:Cx->FZ->(V->Nat->Tr Ob->X S1)->X S1)
noncomputable def mi:Nat->List V->Tr V->(Tr V->X S1)->X S1
 | _,[],t,k=>k t
 | i,v::l,t,k=>Tr.set 64 t i v λt=>mi (i+1) l t k
noncomputable def iq (env:Tr V) (h:Tr Ob):List ResultVar->(List V->X S1)->X S1
 | [],k=>k []
 | .tmp t::l,k=>aL env (.tmp t) λv=>iq env h l λr=>k (v::r)
 | .cell a t::l,k=>aL env (.tmp a) λa=>km T h t a λv=>iq env h l λr=>k (v::r)
noncomputable def oW (l:List V) (k:V->X S1):X S1:=match l with
 | [v]=>k v
 | l=>k (.t l)
noncomputable def fA (n:Nat) (d:Option Nat) (v:V) (env:Tr V) (k:Tr V->X S1):X S1:=match d with
 | none=>k env
 | some d=>match Nat.ble (d+1) n with
  | true=>Tr.set 64 env d v k
  | false=>no 169
noncomputable def fD (dk:Bool) (g:Nat) (xs:List V) (nx:Nat) (h:Tr Ob) (k:V->Nat->Tr Ob->X S1):X S1:=match F.get g with
 | some fn=>match fn.body with
  | some c=>mi 0 xs .e λenv=>fN fn.ntmps λn=>run ⟨g,none,n,dk⟩ ⟨.k [.code c],env,nx,h,[]⟩ k
  | none=>no 170
 | none=>no 171
noncomputable def mj (g:Nat) (xs:List V) (nx:Nat) (h:Tr Ob) (k:V->Nat->Tr Ob->X S1):X S1:=match E g with
 | some x=>x xs h λv=>k v nx h
 | none=>fD F run false g xs nx h k
noncomputable def fE (l:List Oper) (env:Tr V):Option (Nat×Bool)->Option Bool
 | none=>some true
 | some (j,want)=>match nth l j with
  | some o=>match o.dst with
   | some t=>match env.get t with
    | some (.c (.bool b))=>some (b==want)
    | some (.t [])=>some false
    | _=>none
   | none=>none
  | none=>none
noncomputable def leave (v:List ResultVar) (env:Tr V):List Df->Nat->Tr Ob->X S1
 | [],nx,h=>iq T env h v λr=>oW r λv=>.v (.fin v nx h)
 | .m _::_,_,_=>no 165
 | .c g cs::ds,nx,h=>fD F run true g cs nx h λ_ nx h=>leave v env ds nx h
noncomputable def q9 (cx:Cx) (v:List ResultVar) (env:Tr V) (nx:Nat) (h:Tr Ob) (ds:List Df):X S1:=match ds with
 | []=>iq T env h v λr=>oW r λv=>.v (.fin v nx h)
 | [.m o]=>match cx.dk with
  | true=>no 163
  | false=>match h.get o with
   | some .d=>Tr.set 64 h o .g λh=>iq T env h v λr=>oW r λv=>.v (.fin v nx h)
   | _=>no 164
 | ds=>match cx.dk with
  | true=>no 166
  | false=>leave T F run v env ds nx h
noncomputable def gQ (n:Nat):List Nat->List V->Tr V->(Tr V->X S1)->X S1
 | [],[],e,k=>k e
 | p::ps,v::vs,e,k=>fA n (some p) v e λe=>gQ n ps vs e k
 | _,_,_,_=>no 172
noncomputable def sx (f:V) (xs:List V) (nx:Nat) (h:Tr Ob) (k:V->Nat->Tr Ob->X S1):X S1:=match f with
 | .f g cs=>lk xs cs λxs=>mj F E run g xs nx h k
 | .y lo=>match h.get lo with
  | some (.r true fn n e ps a b)=>gQ n ps xs e λe'=>run ⟨fn,some lo,n,false⟩ ⟨.k [.code a,.beginRound,.code b],e',nx,h,[]⟩ λ_ nx h=>match h.get lo with
   | some (.r false xt n2 e2 xu a2 b2)=>Tr.set 64 h lo (.r true xt n2 e2 xu a2 b2) λh=>k (cB true) nx h
   | _=>no 175
  | _=>no 173
 | _=>no 174
noncomputable def xv (a:Ac) (env:Tr V) (nx:Nat) (h:Tr Ob) (k:V->Nat->Tr Ob->X S1):X S1:=match a with
 | .pu g=>g env λv=>k v nx h
 | .rd g=>g env h λv=>k v nx h
 | .al g=>g env nx λv ob=>Tr.set 64 h nx ob λh=>fN (Nat.succ nx) λnx=>k v nx h
 | .ef g=>g env nx h k
 | .ca f xs=>kJ env xs λxs=>aL env f λf=>sx F E run f xs nx h k
 | .df _=>no 175
 | .no n=>no n
noncomputable def yw (cx:Cx) (o:Oper) (l rest:List Oper) (k:List Item) (env:Tr V) (nx:Nat) (h:Tr Ob) (ds:List Df):X S1:=match fE l env o.guard with
 | none=>no 176
 | some false=>fA cx.n o.dst undef env λenv=>.v (.go ⟨.o l rest k,env,nx,h,ds⟩)
 | some true=>match act T o.op with
  | .df f=>match cx.ro with
   | none=>aL env f λf=>match f with
    | .f g cs=>fA cx.n o.dst undef env λenv=>.v (.go ⟨.o l rest k,env,nx,h,.c g cs::ds⟩)
    | _=>no 178
   | some _=>no 177
  | a=>xv F E run a env nx h λv nx h=>fA cx.n o.dst v env λenv=>.v (.go ⟨.o l rest k,env,nx,h,ds⟩)
noncomputable def tb (m j:Nat):Bool:=Nat.beq (Nat.mod (Nat.div m (Nat.pow 2 j)) 2) 1
noncomputable def kp (env:Tr V):List Nat->Tr V->(Tr V->X S1)->X S1
 | [],t,k=>k t
 | s::l,t,k=>match env.get s with
  | some v=>Tr.set 64 t s v λt=>kp env l t k
  | none=>kp env l t k
noncomputable def dQ (m:Nat->Bool):List (Nat×Nat×Ob)->Tr Ob->(Tr Ob->X S1)->X S1
 | [],h,k=>k h
 | (j,a,ob)::l,h,k=>match m j with
  | true=>match h.get a with
   | some _=>dQ m l h k
   | none=>Tr.set 64 h a ob λh=>dQ m l h k
  | false=>dQ m l h k
noncomputable def oX:uB->uB->Bool
 | .int j a,.int k b=>match decide (j=k) with
  | true=>decide (a=b)
  | false=>false
 | .bool a,.bool b=>a==b
 | .pointer none,.pointer none=>true
 | .slice none 0 0,.slice none 0 0=>true
 | .map none,.map none=>true
 | .nilFunc,.nilFunc=>true
 | _,_=>false
noncomputable def oY:Option Nat->Option Nat->Bool
 | none,none=>true
 | some a,some b=>Nat.beq a b
 | _,_=>false
mutual
noncomputable def bH:V->V->Bool
 | .c a,.c b=>oX a b
 | .s a,.s b=>oL a b
 | .p a b,.p c d=>Nat.beq a c && Nat.beq b d
 | .l a b c d,.l e f g h=>Nat.beq a e && Nat.beq b f && Nat.beq c g && oY d h
 | .z,.z=>true
 | .m a,.m b=>Nat.beq a b
 | .y a,.y b=>Nat.beq a b
 | .f a b,.f c d=>Nat.beq a c && du b d
 | .a a,.a b=>du a b
 | .t a,.t b=>du a b
 | _,_=>false
noncomputable def du:List V->List V->Bool
 | [],[]=>true
 | a::l,b::m=>bH a b && du l m
 | _,_=>false
end
inductive Rd where
 | mk (i m:Nat) (env:Tr V) (g:Tr V->Tr Ob->(V->X S1)->X S1) (v:V)
noncomputable def lB (h0:Tr Ob):List (Nat×Tr Ob)->Tr Ob
 | []=>h0
 | (_,H)::_=>H
noncomputable def gR (me:Nat) (al:List (Nat×Nat×Ob)) (H:Tr Ob) (k:X S1):List Rd->X S1
 | []=>k
 | .mk i m e g v::l=>match tb me i with
  | true=>gR me al H k l
  | false=>dQ (tb m) al H λh=>g e h λu=>match bH v u with
   | true=>gR me al H k l
   | false=>no 201
noncomputable def ml (m:Nat) (al:List (Nat×Nat×Ob)) (g:Tr V->Tr Ob->(V->X S1)->X S1) (e:Tr V) (v:V) (h0:Tr Ob) (k:X S1):List (Nat×Tr Ob)->X S1
 | []=>k
 | (i,_)::l=>match tb m i with
  | true=>k
  | false=>dQ (tb m) al (lB h0 l) λh=>g e h λu=>match bH v u with
   | true=>ml m al g e v h0 k l
   | false=>no 202
noncomputable def jt (m:Nat):List (Nat×Tr Ob)->Bool
 | []=>true
 | (i,_)::l=>match tb m i with
  | true=>jt m l
  | false=>false
noncomputable def qw (cx:Cx) (l:List Oper) (h0:Tr Ob):List Oper->List Nat->Nat->Tr V->Nat->List (Nat×Tr Ob)->List (Nat×Nat×Ob)->List Rd->(Tr V->Nat->Tr Ob->X S1)->X S1
 | [],_,_,env,nx,aY,al,_,k=>dQ (λ_=>true) al (lB h0 aY) λh=>k env nx h
 | _::_,[],_,_,_,_,_,_,_=>no 203
 | o::os,m::ms,i,env,nx,aY,al,dI,k=>kp env (Go.Abs.dU l o) .e λe=>match fE l e o.guard with
  | none=>no 204
  | some false=>fA cx.n o.dst undef env λenv=>fN (Nat.succ i) λi=>qw cx l h0 os ms i env nx aY al dI k
  | some true=>match act T o.op with
   | .pu g=>g e λv=>fA cx.n o.dst v env λenv=>fN (Nat.succ i) λi=>qw cx l h0 os ms i env nx aY al dI k
   | .al g=>g e nx λv ob=>fA cx.n o.dst v env λenv=>fN (Nat.succ nx) λav=>fN (Nat.succ i) λi'=>qw cx l h0 os ms i' env av aY ((i,nx,ob)::al) dI k
   | .rd g=>dQ (tb m) al (lB h0 aY) λh=>g e h λv=>ml m al g e v h0 (fA cx.n o.dst v env λenv=>fN (Nat.succ i) λi'=>qw cx l h0 os ms i' env nx aY al (.mk i m e g v::dI) k) aY
   | .df _=>no 205
   | .no n=>no n
   | a=>match jt m aY with
    | false=>no 206
    | true=>dQ (tb m) al (lB h0 aY) λh=>xv F E run a e nx h λv av h'=>gR m al h' (fA cx.n o.dst v env λenv=>fN (Nat.succ i) λi'=>qw cx l h0 os ms i' env av ((i,h')::aY) al dI k) dI
noncomputable def oZ (cx:Cx) (l:List Oper) (env:Tr V) (nx:Nat) (h:Tr Ob) (k:Tr V->Nat->Tr Ob->X S1):X S1:=match Go.Abs.fM l l.length with
 | true=>ll (λn k=>fN n k) (Go.Abs.aE l []) λms=>qw T F E run cx l h l ms 0 env nx [] [] [] k
 | false=>no 207
noncomputable def lC (cx:Cx) (f:V) (ps:List Nat) (a b:Code) (k:List Item) (env:Tr V) (nx:Nat) (h:Tr Ob) (ds:List Df):X S1:=match f with
 | .f g cs=>match ds with
  | []=>match cx.ro with
   | none=>match cx.dk with
    | false=>Tr.set 64 h nx .d λh=>fN (Nat.succ nx) λl=>Tr.set 64 h l (.r true cx.fn cx.n env ps a b) λh=>fN (Nat.succ l) λav =>
     fD F run false g (.y l::cs) av h λ_ AA h=>match h.get l with
      | some (.r true _ _ _ _ _ _)=>Tr.set 64 h l .g λh=>.v (.go ⟨.k k,env,AA,h,[.m nx]⟩)
      | _=>no 167
    | true=>no 192
   | some _=>no 193
  | _=>no 194
 | _=>no 179
noncomputable def o4 (cx:Cx) (c:Code) (k:List Item) (env:Tr V) (nx:Nat) (h:Tr Ob) (ds:List Df):X S1:=match c with
 | .skip=>.v (.go ⟨.k k,env,nx,h,ds⟩)
 | .label _=>.v (.go ⟨.k k,env,nx,h,ds⟩)
 | .seq a b=>.v (.go ⟨.k (.code a::.code b::k),env,nx,h,ds⟩)
 | .cond c x y=>aL env c λc=>match c with
  | .c (.bool true)=>.v (.go ⟨.k (.code x::k),env,nx,h,ds⟩)
  | .c (.bool false)=>.v (.go ⟨.k (.code y::k),env,nx,h,ds⟩)
  | _=>no 180
 | .block id c=>.v (.go ⟨.k (.code c::.inBlock id::k),env,nx,h,ds⟩)
 | .loop c=>.v (.go ⟨.k (.code c::.inLoop c::k),env,nx,h,ds⟩)
 | .exit id=>match exitTo id k with
  | some k=>.v (.go ⟨.k k,env,nx,h,ds⟩)
  | none=>no 181
 | .goto l=>match gotoIn l k with
  | some k=>.v (.go ⟨.k k,env,nx,h,ds⟩)
  | none=>no 182
 | .scope _=>no 198
 | .region _ ops d=>match d with
  | false=>.v (.go ⟨.o ops.toList ops.toList k,env,nx,h,ds⟩)
  | true=>oZ T F E run cx ops.toList env nx h λenv nx h=>.v (.go ⟨.k k,env,nx,h,ds⟩)
 | .rangeFunc f ps a b=>aL env f λf=>lC F run cx f ps.toList a b k env nx h ds
 | .ret=>match cx.ro with
  | some _=>no 183
  | none=>match F.get cx.fn with
   | some fn=>q9 T F run cx fn.results.toList env nx h ds
   | none=>no 184
 | .refuse _=>no 185
noncomputable def step (cx:Cx) (s:FZ):X S1:=match s with
 | ⟨.k [],env,nx,h,ds⟩=>match cx.ro with
  | some _=>match ds with
   | []=>match cx.dk with
    | false=>.v (.fin (cB true) nx h)
    | true=>no 199
   | _=>no 196
  | none=>match F.get cx.fn with
   | some fn=>match ds with
    | []=>q9 T F run cx fn.results.toList env nx h []
    | _=>no 197
   | none=>no 186
 | ⟨.k (it::k),env,nx,h,ds⟩=>match it with
  | .code c=>o4 T F E run cx c k env nx h ds
  | .inBlock _=>.v (.go ⟨.k k,env,nx,h,ds⟩)
  | .inLoop c=>.v (.go ⟨.k (.code c::.inLoop c::k),env,nx,h,ds⟩)
  | .beginRound=>match cx.ro with
   | some l=>match h.get l with
    | some (.r true fn n e ps a b)=>match cx.dk with
     | false=>Tr.set 64 h l (.r false fn n e ps a b) λh=>.v (.go ⟨.k k,env,nx,h,ds⟩)
     | true=>no 200
    | _=>no 187
   | none=>no 188
  | _=>no 189
 | ⟨.o _ [] k,env,nx,h,ds⟩=>.v (.go ⟨.k k,env,nx,h,ds⟩)
 | ⟨.o l (o::rest) k,env,nx,h,ds⟩=>match yw T F E run cx o l rest k env nx h ds with
  | .e n none=>.e n (some o)
  | r=>r
noncomputable def it (cx:Cx):Nat->FZ->X S1
 | 0,s=>step T F E run cx s
 | n+1,s=>match it cx n s with
  | .v (.go s)=>it cx n s
  | r=>r
end fr
noncomputable def runN (T:Tr TI) (F:Tr Func) (E:Nat->Option (List V->Tr Ob->(V->X S1)->X S1)) (m:Nat):Nat->Cx->FZ->(V->Nat->Tr Ob->X S1)->X S1
 | 0,_,_,_=>no 190
 | d+1,cx,s,k=>match it T F E (runN T F E m d) cx m s with
  | .v (.fin v nx h)=>k v nx h
  | .v (.go _)=>no 191
  | .e n o=>.e n o
noncomputable def build {α:Type} (g:Nat->Option α):Nat->Nat->Tr α->(Tr α->X S1)->X S1
 | 0,_,t,k=>k t
 | n+1,i,t,k=>match g i with
  | some a=>Tr.set 64 t i a λt=>build g n (i+1) t k
  | none=>build g n (i+1) t k
noncomputable def yx {β:Type} (i:TI) (k:TI->β):β:=match i with
 | ⟨.st fs,s,z,ez,e,eg,g,fk,fq,eb⟩=>ll (λx k=>fN x.1 λa=>fN x.2.1 λb=>fN x.2.2 λc=>k (a,b,c)) fs λfs=>fN s λs=>fV z λz=>fN g λg=>k ⟨.st fs,s,z,ez,e,eg,g,fk,fq,eb⟩
 | ⟨.sl t,s,z,ez,e,eg,g,fk,fq,eb⟩=>fN t λt=>fN ez λez=>fV e λe=>fN eg λeg=>fN g λg=>fN eb λeb=>k ⟨.sl t,s,z,ez,e,eg,g,fk,fq,eb⟩
 | ⟨.ar n t,s,z,ez,e,eg,g,fk,fq,eb⟩=>fN n λn=>fN t λt=>fN s λs=>fV z λz=>fN ez λez=>fV e λe=>fN eg λeg=>fN g λg=>k ⟨.ar n t,s,z,ez,e,eg,g,fk,fq,eb⟩
 | ⟨.mp a t,s,z,ez,e,eg,g,fk,fq,eb⟩=>fN a λa=>fN t λt=>fN ez λez=>fV e λe=>fN g λg=>k ⟨.mp a t,s,z,ez,e,eg,g,fk,fq,eb⟩
 | ⟨t,s,z,ez,e,eg,g,fk,fq,eb⟩=>fN s λs=>fV z λz=>fN g λg=>k ⟨t,s,z,ez,e,eg,g,fk,fq,eb⟩
noncomputable def gS (P:uF):Nat->Nat->Tr TI->(Tr TI->X S1)->X S1
 | 0,_,t,k=>k t
 | n+1,i,t,k=>match qU P i with
  | some a=>yx a λa=>Tr.set 64 t i a λt=>gS P n (i+1) t k
  | none=>gS P n (i+1) t k
noncomputable def tU (P:uF) (i:Nat):Option Func:=match P.funcs[i]? with
 | some fn=>match fn.name == "runtime.NumGoroutine" with
  | false=>some fn
  | true=>none
 | none=>none
noncomputable def main (P:uF) (E:Nat->Option (List V->Tr Ob->(V->X S1)->X S1)) (H:Tr Ob) (f:Nat) (xs:List V):X S1 :=
 gS P P.types.size 0 .e λT=>build (tU P) P.funcs.size 0 .e λF =>
  fD F (runN T F E 40 60) false f xs 1000 H λv nx h=>.v (.fin v nx h)
end Go.CI
namespace Go.CI
section tr
variable {α β:Type}
@[simp] theorem zB (i:Nat):(Tr.e:Tr α).get i=none:=by cases i<;>rfl
theorem lD (l:Tr α) (x:J α) (r:Tr α):(Tr.n l x r).get 0=x:=rfl
theorem eo (l:Tr α) (x:J α) (r:Tr α) (j:Nat) (h:j % 2=0):(Tr.n l x r).get (j+1)=l.get (j / 2):=by
 show Nat.rec (motive:=λ_=>J α) (l.get (Nat.div j 2)) (λ_ _=>r.get (Nat.div j 2)) (Nat.mod j 2)=_
 have:Nat.mod j 2=0:=h
 rw[this];rfl
theorem er (l:Tr α) (x:J α) (r:Tr α) (j:Nat) (h:j % 2=1):(Tr.n l x r).get (j+1)=r.get (j / 2):=by
 show Nat.rec (motive:=λ_=>J α) (l.get (Nat.div j 2)) (λ_ _=>r.get (Nat.div j 2)) (Nat.mod j 2)=_
 have:Nat.mod j 2=1:=h
 rw[this];rfl
def sy (t:Tr α) (i:Nat) (a:α) (t':Tr α):Prop:=∀ j,t'.get j=if j=i then some a else t.get j
theorem sA (l:Tr α) (x:J α) (r:Tr α) (a:α):sy (.n l x r) 0 a (.n l (some a) r):=λj=>by
 cases j with
 | zero=>simp[lD]
 | succ j =>
  rcases zbj j with h|h
  ·rw[eo _ _ _ _ h,eo _ _ _ _ h];simp
  ·rw[er _ _ _ _ h,er _ _ _ _ h];simp
theorem sB {l l' r:Tr α} {x:J α} {a:α} {i:Nat} (hi:i % 2=0) (h:sy l (i / 2) a l'):sy (.n l x r) (i+1) a (.n l' x r):=λj=>by
 cases j with
 | zero=>simp[lD]
 | succ j =>
  rcases zbj j with hj|hj
  ·rw[eo _ _ _ _ hj,eo _ _ _ _ hj,h]
   by_cases e:j=i
   ·subst e;simp
   ·have e2:¬ j / 2=i / 2:=λh=>e (by omega)
    simp[e,e2]
  ·rw[er _ _ _ _ hj,er _ _ _ _ hj]
   have:¬ j=i:=λe=>by omega
   simp[this]
theorem sC {l r r':Tr α} {x:J α} {a:α} {i:Nat} (hi:i % 2=1) (h:sy r (i / 2) a r'):sy (.n l x r) (i+1) a (.n l x r'):=λj=>by
 cases j with
 | zero=>simp[lD]
 | succ j =>
  rcases zbj j with hj|hj
  ·rw[eo _ _ _ _ hj,eo _ _ _ _ hj]
   have:¬ j=i:=λe=>by omega
   simp[this]
  ·rw[er _ _ _ _ hj,er _ _ _ _ hj,h]
   by_cases e:j=i
   ·subst e;simp
   ·have e2:¬ j / 2=i / 2:=λh=>e (by omega)
    simp[e,e2]
theorem tV (j:Nat):(Tr.n .e none .e:Tr α).get j=none:=by
 cases j with
 | zero=>rfl
 | succ j =>
  rcases zbj j with hj|hj
  ·rw[eo _ _ _ _ hj];rfl
  ·rw[er _ _ _ _ hj];rfl
theorem lE {i:Nat} {a:α} {t':Tr α} (h:sy (.n .e none .e) i a t'):sy .e i a t':=λj=>by rw[h j,tV];rfl
theorem aS {f:Nat}:∀ {t:Tr α} {i:Nat} {a:α} {k:Tr α->X β} {r:β},Tr.set f t i a k=.v r->∃ t',k t'=.v r/\sy t i a t':=by
 induction f with
 | zero=>intro t i a k r h;cases h
 | succ f ih =>
  intro t i a k r h
  cases t with
  | e =>
   cases i with
   | zero=>exact ⟨_,h,lE (sA _ _ _ _)⟩
   | succ i =>
    change Nat.rec (motive:=λ_=>X β) (Tr.set f .e (Nat.div i 2) a λl=>k (.n l none .e)) (λ_ _=>Tr.set f .e (Nat.div i 2) a λr=>k (.n .e none r)) (Nat.mod i 2)=_ at h
    rcases zbj i with hi|hi
    ·have e:Nat.mod i 2=0:=hi
     rw[e] at h
     obtain ⟨t',h1,h2⟩:=ih h
     exact ⟨_,h1,lE (sB hi h2)⟩
    ·have e:Nat.mod i 2=1:=hi
     rw[e] at h
     obtain ⟨t',h1,h2⟩:=ih h
     exact ⟨_,h1,lE (sC hi h2)⟩
  | n l x r0 =>
   cases i with
   | zero=>exact ⟨_,h,sA _ _ _ _⟩
   | succ i =>
    change Nat.rec (motive:=λ_=>X β) (Tr.set f l (Nat.div i 2) a λl=>k (.n l x r0)) (λ_ _=>Tr.set f r0 (Nat.div i 2) a λr=>k (.n l x r)) (Nat.mod i 2)=_ at h
    rcases zbj i with hi|hi
    ·have e:Nat.mod i 2=0:=hi
     rw[e] at h
     obtain ⟨t',h1,h2⟩:=ih h
     exact ⟨_,h1,sB hi h2⟩
    ·have e:Nat.mod i 2=1:=hi
     rw[e] at h
     obtain ⟨t',h1,h2⟩:=ih h
     exact ⟨_,h1,sC hi h2⟩
end tr
section f
variable {α β γ:Type}
theorem aB (n:Nat) (k:Nat->β):fN n k=k n:=by cases n<;>rfl
theorem o5 (n:Int) (k:Int->β):fI n k=k n:=by
 cases n with
 | ofNat n=>exact aB n λn=>k (.ofNat n)
 | negSucc n=>exact aB n λn=>k (.negSucc n)
theorem sD (b:Bool) (k:Bool->β):fB b k=k b:=by cases b<;>rfl
theorem wi (v:uB) (k:uB->β):fC v k=k v:=by
 unfold fC
 split
 ·exact o5 _ _
 ·exact sD _ _
 ·rfl
theorem c6 (l:O α):∀ i,nth l i=l[i]?:=by
 induction l with
 | nil=>intro i;rfl
 | cons a l ih=>intro i;cases i with
  | zero=>rfl
  | succ i=>exact (ih i).trans (by simp)
theorem eS (n:Nat):∀ (l:O α) (k:O α->β),kj n l k=k (l.take n):=by
 induction n with
 | zero=>intro l k;rfl
 | succ n ih=>intro l k;cases l with
  | nil=>rfl
  | cons a l=>exact ih l _
theorem eT (n:Nat):∀ (l:O α) (k:O α->β),kl n l k=k (l.drop n):=by
 induction n with
 | zero=>intro l k;rfl
 | succ n ih=>intro l k;cases l with
  | nil=>rfl
  | cons a l=>exact ih l _
theorem dJ (l m:O α):∀ k:O α->β,lk l m k=k (l++m):=by
 induction l with
 | nil=>intro k;rfl
 | cons a l ih=>intro k;exact ih _
theorem dK {g:α->(γ->β)->β} {f:α->γ} (hg:∀ a k,g a k=k (f a)) (l:O α):∀ k:O γ->β,ll g l k=k (l.map f):=by
 induction l with
 | nil=>intro k;rfl
 | cons a l ih=>intro k;exact (hg a _).trans (ih _)
def rep (z:List α):Nat->List α
 | 0=>[]
 | n+1=>z++rep z n
theorem gj (z:O α) (n:Nat):∀ k:O α->β,oJ z n k=k (rep z n):=by
 induction n with
 | zero=>intro k;rfl
 | succ n ih=>intro k;exact (ih _).trans (dJ _ _ _)
theorem gk (l:O α):∀ (n:Nat) (k:Nat->β),oK l n k=k (n+l.length):=by
 induction l with
 | nil=>intro n k;rfl
 | cons a l ih=>intro n k;exact (ih _ k).trans (by rw[zbc];congr 1;omega)
theorem mn (new:O α) (n:Nat):∀ (l:O α) (k:O α->β),n<=l.length->ki new n l k=k (l.take n++new++l.drop (n+new.length)):=by
 induction n with
 | zero=>intro l k _;exact (eT _ _ _).trans ((dJ _ _ _).trans (by simp))
 | succ n ih=>intro l k h;cases l with
  | nil=>simp at h
  | cons a l=>exact (ih l _ (by simpa using h)).trans (by simp[Nat.add_right_comm])
mutual
theorem gT:∀ (v:V) (k:V->β),fV v k=k v
 | .c v,k=>by unfold fV;exact wi _ _
 | .s l,k=>by unfold fV;exact (dK (f:=id) (λa k=>aB a k) l _).trans (by simp)
 | .a cs,k=>by unfold fV;exact o6 cs _
 | .p _ _,k=>by unfold fV;rfl
 | .l _ _ _ _,k=>by unfold fV;rfl
 | .m _,k=>by unfold fV;rfl
 | .z,k=>by unfold fV;rfl
 | .f _ _,k=>by unfold fV;rfl
 | .y _,k=>by unfold fV;rfl
 | .t _,k=>by unfold fV;rfl
theorem o6:∀ (v:O V) (k:O V->β),we v k=k v
 | [],k=>by unfold we;rfl
 | v::l,k=>by unfold we;rw[gT v,o6 l]
end
end f
section x
variable {β:Type}
theorem az {env:Tr V} {x:uG} {k:V->X β} {r:β} (h:aL env x k=.v r):∃ v,ev env x=some v/\k v=.v r:=by
 cases x with
 | tmp t =>
  change Option.rec (motive:=λ_=>X β) (no 19) (λv=>k v) (env.get t)=_ at h
  cases hg:env.get t with
  | none=>rw[hg] at h;cases h
  | some v=>rw[hg] at h;exact ⟨v,hg,h⟩
 | const v=>exact ⟨_,rfl,(gT _ _).symm.trans h⟩
 | global g=>cases h
 | func f=>exact ⟨_,rfl,h⟩
def wj (env:Tr V):List uG->List V->Prop
 | [],[]=>True
 | x::l,v::m=>ev env x=some v/\wj env l m
 | _,_=>False
theorem dX {env:Tr V}:∀ {l:O uG} {k:O V->X β} {r:β},kJ env l k=.v r->∃ vs,wj env l vs/\k vs=.v r
 | [],k,r,h=>⟨[],trivial,h⟩
 | x::l,k,r,h=>by
  unfold kJ at h
  obtain ⟨v,h1,h⟩:=az h
  obtain ⟨vs,h2,h⟩:=dX h
  exact ⟨v::vs,⟨h1,h2⟩,h⟩
theorem gU (j:IntKind) (n:Int) (k:V->X β):ci j n k=k (.c (.int j n)):=o5 _ _
theorem kq (b:Bool) (k:V->X β):cb b k=k (.c (.bool b)):=sD _ _
end x
end Go.CI
namespace Go.CI
open Go.RowKit Go.Abs
structure Pl where
 b:Nat
 base:Nat
 ext:Nat
 sz:Nat
abbrev Mp:=Nat->Option Pl
mutual
inductive R (μ:Mp):V->uB->Prop
 | c (v:uB):R μ (.c v) v
 | s (bs:List uA):R μ (.s (bs.map UInt8.toNat)) (.string ⟨⟨bs⟩⟩)
 | p {o:Nat} (off:Nat) {pl:Pl} (h:μ o=some pl):R μ (.p o off) (.pointer (some ⟨pl.b,pl.base+off,none⟩))
 | l {o:Nat} (off n:Nat) (c:Option Nat) (k:Nat) {pl:Pl} (h:μ o=some pl) (hk:n<=k) (hc:c=some k∨(c=none/\off+k*pl.sz=pl.ext)):R μ (.l o off n c) (.slice (some ⟨pl.b,pl.base+off,none⟩) n k)
 | z (b off k:Nat):R μ .z (.slice (some ⟨b,off,none⟩) 0 k)
 | m {o:Nat} {pl:Pl} (h:μ o=some pl):R μ (.m o) (.map (some pl.b))
 | f (g:Nat) {cs:List V} {vs:List uB} (h:Rs μ cs vs):R μ (.f g cs) (.func (.func g) #[] ⟨vs⟩)
 | y {o:Nat} {pl:Pl} (h:μ o=some pl):R μ (.y o) (.func (.yield pl.b) #[] #[])
 | a {cs:List V} {vs:List uB} (h:Rs μ cs vs) (h1:∀ u∈vs,u.oneCell'=true):R μ (.a cs) (.agg ⟨vs⟩)
 | t {cs:List V} {vs:List uB} (h:Rs μ cs vs):R μ (.t cs) (.tuple ⟨vs⟩)
inductive Rs (μ:Mp):List V->List uB->Prop
 | nil:Rs μ [] []
 | cons {v:V} {u:uB} {l:List V} {m:List uB} (h:R μ v u) (t:Rs μ l m):Rs μ (v::l) (u::m)
end
def Le (μ μ':Mp):Prop:=∀ o pl,μ o=some pl->μ' o=some pl
theorem Le.refl (μ:Mp):Le μ μ:=λ_ _ h=>h
theorem Le.trans {a b c:Mp} (h:Le a b) (k:Le b c):Le a c:=λo pl e=>k o pl (h o pl e)
mutual
theorem R.mono {μ μ':Mp} (e:Le μ μ'):∀ {v:V} {u:uB},R μ v u->R μ' v u
 | _,_,.c v=>.c v
 | _,_,.s bs=>.s bs
 | _,_,.p off h=>.p off (e _ _ h)
 | _,_,.l off n c k h hk hc=>.l off n c k (e _ _ h) hk hc
 | _,_,.z b off k=>.z b off k
 | _,_,.m h=>.m (e _ _ h)
 | _,_,.f g h=>.f g (h.mono e)
 | _,_,.y h=>.y (e _ _ h)
 | _,_,.a h h1=>.a (h.mono e) h1
 | _,_,.t h=>.t (h.mono e)
theorem Rs.mono {μ μ':Mp} (e:Le μ μ'):∀ {v:O V} {u:O uB},Rs μ v u->Rs μ' v u
 | _,_,.nil=>.nil
 | _,_,.cons h t=>.cons (h.mono e) (t.mono e)
end
section rs
variable {μ:Mp}
theorem Rs.len:∀ {l:O V} {m:O uB},Rs μ l m->l.length=m.length
 | _,_,.nil=>rfl
 | _,_,.cons _ t=>by simp[t.len]
theorem Rs.append:∀ {l l':O V} {m:O uB} {m':O uB},Rs μ l m->Rs μ l' m'->Rs μ (l++l') (m++m')
 | _,_,_,_,.nil,k=>k
 | _,_,_,_,.cons h t,k=>.cons h (t.append k)
theorem Rs.take:∀ (n:Nat) {l:O V} {m:O uB},Rs μ l m->Rs μ (l.take n) (m.take n)
 | 0,_,_,_=>by simp;exact .nil
 | n+1,_,_,.nil=>by simp;exact .nil
 | n+1,_,_,.cons h t=>by simp;exact .cons h (t.take n)
theorem Rs.drop:∀ (n:Nat) {l:O V} {m:O uB},Rs μ l m->Rs μ (l.drop n) (m.drop n)
 | 0,_,_,h=>h
 | n+1,_,_,.nil=>by simp;exact .nil
 | n+1,_,_,.cons h t=>t.drop n
theorem Rs.get:∀ {l:O V} {m:O uB},Rs μ l m->∀ {i:Nat} {v:V},l[i]?=some v->∃ u,m[i]?=some u/\R μ v u
 | _,_,.nil,_,_,h=>by simp at h
 | _,_,.cons h t,i,v,e=>by
  cases i with
  | zero=>simp at e;subst e;exact ⟨_,rfl,h⟩
  | succ i=>simp at e;simpa using t.get e
theorem Rs.rep {z:O V} {zs:O uB} (h:Rs μ z zs):∀ n,Rs μ (CI.rep z n) (CI.rep zs n)
 | 0=>.nil
 | n+1=>h.append (h.rep n)
end rs
def ER (μ:Mp) (env:Tr V) (tmps:uD uB):Prop:=∀ t v,env.get t=some v->∃ u,tmps[t]?=some u/\R μ v u
theorem ER.mono {μ μ':Mp} {env:Tr V} {tmps:uD uB} (h:ER μ env tmps) (e:Le μ μ'):ER μ' env tmps:=λt v k=>let ⟨u,a,b⟩:=h t v k;⟨u,a,b.mono e⟩
inductive RM (μ:Mp):List (V×Nat×V)->List MapEntry->Prop
 | nil:RM μ [] []
 | cons {k v:V} {b:Nat} {e:MapEntry} {l:List (V×Nat×V)} {m:List MapEntry} (h1:R μ k e.key) (h2:R μ v e.val) (h3:e.born=b) (t:RM μ l m):RM μ ((k,b,v)::l) (e::m)
theorem RM.mono {μ μ':Mp} (e:Le μ μ'):∀ {l:O (V×Nat×V)} {m:O MapEntry},RM μ l m->RM μ' l m
 | _,_,.nil=>.nil
 | _,_,.cons h1 h2 h3 t=>.cons (h1.mono e) (h2.mono e) h3 (t.mono e)
def Row (μ:Mp) (pl:Pl) (w:uC) (ty:Nat) (cs:List V):Prop :=
 ∃ (fz:Nat×Nat) (pre vs post:List uB),w.heap[pl.b]?=some (.cells ⟨pre++(vs++post)⟩ ty fz)/\(fz.2<=fz.1∨pl.base+pl.ext<=fz.1)/\pre.length=pl.base/\vs.length+post.length=pl.ext/\Rs μ cs vs/\∀ u∈vs,u.oneCell'=true
def ju (μ:Mp) (pl:Pl) (w:uC):Ob->Prop
 | .c _ sz cs=>pl.sz=sz/\∃ ty,Row μ pl w ty cs
 | .k cs=>∃ ty,Row μ pl w ty cs
 | .m es ck=>∃ ms,w.heap[pl.b]?=some (.map ⟨ms⟩ ck)/\RM μ es ms/\pl.base=0
 | .i s pos=>pl.base=0/\∃ bs:List uA,s=bs.map UInt8.toNat/\w.heap[pl.b]?=some (.stringIter ⟨⟨bs⟩⟩ pos)
 | .r b fn n env ps a bd=>∃ lp,w.heap[pl.b]?=some (.loop lp)/\n<=lp.tmps.size/\lp.state=(if b then .ready else .busy)/\lp.pending=none/\lp.fn=fn/\lp.params=⟨ps⟩/\lp.assign=a/\lp.body=bd/\ER μ env lp.tmps
 | .d=>w.heap[pl.b]?=some (.deferred (some []))
 | .g=>True
def live:Ob->Bool
 | .g=>false
 | .k _=>false
 | _=>true
theorem ju.mono {μ μ':Mp} {pl:Pl} {w w':uC} (e:Le μ μ') (hb:w'.heap[pl.b]?=w.heap[pl.b]?):∀ {x:Ob},ju μ pl w x->ju μ' pl w' x
 | .c ty sz cs,⟨h,t,fz,pre,vs,post,h1,h0,h2,h3,h4,h5⟩=>⟨h,t,fz,pre,vs,post,hb.trans h1,h0,h2,h3,h4.mono e,h5⟩
 | .k cs,⟨ty,fz,pre,vs,post,h1,h0,h2,h3,h4,h5⟩=>⟨ty,fz,pre,vs,post,hb.trans h1,h0,h2,h3,h4.mono e,h5⟩
 | .m es ck,⟨ms,h1,h2,h3⟩=>⟨ms,hb.trans h1,h2.mono e,h3⟩
 | .i s pos,⟨h,bs,h1,h2⟩=>⟨h,bs,h1,hb.trans h2⟩
 | .r b fn n env ps a bd,⟨lp,h1,h0,h2,h3,h4,h5,h6,h7,h8⟩=>⟨lp,hb.trans h1,h0,h2,h3,h4,h5,h6,h7,h8.mono e⟩
 | .d,h=>hb.trans h
 | .g,_=>trivial
abbrev Hf:=Nat->Option Ob
structure HR (μ:Mp) (B:Nat) (h:Hf) (w:uC):Prop where
 size:B<=w.heap.size
 ob:∀ o x,h o=some x->∃ pl,μ o=some pl/\ju μ pl w x
 low:∀ o x pl,h o=some x->live x=true->μ o=some pl->B<=pl.b/\pl.b<w.heap.size
 nX:∀ o cs pl,h o=some (.k cs)->μ o=some pl->pl.b<B
 sep:∀ o o' x x' pl pl',o≠o'->h o=some x->h o'=some x'->live x=true->live x'=true->μ o=some pl->μ o'=some pl'->pl.b≠pl'.b
def xw (μ:Mp) (h:Hf) (b:Nat):Prop:=∃ o x pl,h o=some x/\live x=true/\μ o=some pl/\pl.b=b
structure Ev (μ:Mp) (h:Hf) (w:uC) (μ':Mp) (h':Hf) (w':uC) (n n':Nat):Prop where
 le:Le μ μ'
 new:∀ o,μ o=none->μ' o≠none->n<=o/\o<n'
 os:w'.os=w.os
 tape:w'.tape=w.tape
 output:w'.output=w.output
 size:w.heap.size<=w'.heap.size
 frame:∀ b,b<w.heap.size->¬ xw μ h b->w'.heap[b]?=w.heap[b]?
 fresh:∀ b,b<w.heap.size->xw μ' h' b->xw μ h b
 nn:n<=n'
 lf:∀ o,h o≠none->h' o≠none
theorem Ev.refl (μ:Mp) (h:Hf) (w:uC) (n:Nat):Ev μ h w μ h w n n :=
 ⟨.refl _,λo h k=>absurd h k,rfl,rfl,rfl,zab _,λ_ _ _=>rfl,λ_ _ h=>h,zab _,λ_ h=>h⟩
theorem Ev.trans {μ1 μ2 μ3:Mp} {h1 h2 h3:Hf} {w1 w2 w3:uC} {a b c:Nat} (p:Ev μ1 h1 w1 μ2 h2 w2 a b) (q:Ev μ2 h2 w2 μ3 h3 w3 b c):Ev μ1 h1 w1 μ3 h3 w3 a c:=by
 refine ⟨p.le.trans q.le,λo e k=>?_,q.os.trans p.os,q.tape.trans p.tape,q.output.trans p.output,zau p.size q.size,λx hx hn=>?_,λx hx ho=>?_,zau p.nn q.nn,λo h=>q.lf o (p.lf o h)⟩
 ·have:=p.nn;have:=q.nn
  cases e2:μ2 o with
  | none=>have:=q.new o e2 k;omega
  | some pl=>have:=p.new o e (by rw[e2];simp);omega
 ·rw[q.frame x (zag hx p.size) λho=>hn (p.fresh x hx ho),p.frame x hx hn]
 ·exact p.fresh x hx (q.fresh x (zag hx p.size) ho)
theorem Ev.below {μ μ':Mp} {h h':Hf} {w w':uC} {n n' B:Nat} (e:Ev μ h w μ' h' w' n n') (k:HR μ B h w):Below B w w' :=
 ⟨e.os,e.tape,e.output,e.size,λb hb=>e.frame b (zag hb k.size) λ⟨o,x,pl,h1,h2,h3,h4⟩=>by have:=(k.low o x pl h1 h2 h3).1;omega⟩
theorem HR.jb {μ:Mp} {B o n:Nat} {h h':Hf} {w w':uC} {x x':Ob} {pl:Pl} (k:HR μ B h w) (hx:h o=some x) (hl:live x=true) (hp:μ o=some pl)
  (hh:∀ j,h' j=if j=o then some x' else h j) (mX:∀ cs,x'≠.k cs) (hs:w'.heap.size=w.heap.size) (hb:∀ b,b≠pl.b->w'.heap[b]?=w.heap[b]?) (nb:w'.os=w.os) (wk:w'.tape=w.tape) (wm:w'.output=w.output)
  (iE:ju μ pl w' x'):HR μ B h' w'/\Ev μ h w μ h' w' n n:=by
 have tW:=k.low o x pl hx hl hp
 refine ⟨⟨by rw[hs];exact k.size,λj y hj=>?_,λj y q hj hy hq=>?_,λj cs q hj hq=>?_,λj j' y y' q q' aN hj de hy qJ hq h9=>?_⟩,
  .refl _,λo h k=>absurd h k,nb,wk,wm,Nat.le_of_eq hs.symm,λb bY hn=>hb b λe=>hn ⟨o,x,pl,hx,hl,hp,e.symm⟩,λb bY ⟨j,y,q,h1,h2,h3,h4⟩=>?_,zab _,λj hj=>by rw[hh];split<;>simp_all⟩
 ·rw[hh] at hj
  by_cases e:j=o
  ·rw[zam e] at hj;cases hj;subst e;exact ⟨pl,hp,iE⟩
  ·rw[zaj e] at hj
   obtain ⟨q,h1,h2⟩:=k.ob j y hj
   refine ⟨q,h1,?_⟩
   cases hy:live y with
   | true=>exact h2.mono (.refl _) (hb _ (k.sep j o y x q pl e hj hx hy hl h1 hp))
   | false =>
    cases y with
    | g=>trivial
    | k cs=>exact h2.mono (.refl _) (hb _ (by have:=k.nX j cs q hj h1;omega))
    | _=>cases hy
 ·rw[hh] at hj
  rw[hs]
  by_cases e:j=o
  ·subst e;rw[hp] at hq;cases hq;exact tW
  ·rw[zaj e] at hj;exact k.low j y q hj hy hq
 ·rw[hh] at hj
  by_cases e:j=o
  ·rw[zam e] at hj;cases hj;exact absurd rfl (mX cs)
  ·rw[zaj e] at hj;exact k.nX j cs q hj hq
 ·rw[hh] at hj de
  by_cases e:j=o
  ·by_cases e':j'=o
   ·exact absurd (e.trans e'.symm) aN
   ·rw[zaj e'] at de
    subst e
    rw[hp] at hq;cases hq
    exact k.sep j j' x y' pl q' aN hx de hl qJ hp h9
  ·rw[zaj e] at hj
   by_cases e':j'=o
   ·subst e'
    rw[hp] at h9;cases h9
    exact k.sep j j' y x q pl aN hj hx hy hl hq hp
   ·rw[zaj e'] at de
    exact k.sep j j' y y' q q' aN hj de hy qJ hq h9
 ·rw[hh] at h1
  by_cases e:j=o
  ·subst e;rw[hp] at h3;cases h3;exact ⟨j,x,pl,hx,hl,hp,h4⟩
  ·rw[zaj e] at h1;exact ⟨j,y,q,h1,h2,h3,h4⟩
def Mp.add (μ:Mp) (o:Nat) (pl:Pl):Mp:=λj=>if j=o then some pl else μ j
theorem Mp.gV {μ:Mp} {o:Nat} {pl:Pl} (h:μ o=none):Le μ (μ.add o pl):=λj q e=>by
 unfold Mp.add
 by_cases k:j=o
 ·subst k;rw[h] at e;cases e
 ·rw[zaj k];exact e
theorem Mp.add_same {μ:Mp} {o:Nat} {pl:Pl}:(μ.add o pl) o=some pl:=by simp[Mp.add]
theorem HR.make {μ:Mp} {B o:Nat} {h h':Hf} {w w':uC} {x:Ob} {pl:Pl} (k:HR μ B h w) (ho:μ o=none) (hh:∀ j,h' j=if j=o then some x else h j) (mX:∀ cs,x≠.k cs)
  (hs:w.heap.size<=w'.heap.size) (hn:pl.b=w.heap.size) (aG:pl.b<w'.heap.size) (hb:∀ b,b<w.heap.size->w'.heap[b]?=w.heap[b]?) (nb:w'.os=w.os) (wk:w'.tape=w.tape) (wm:w'.output=w.output)
  (iE:ju (μ.add o pl) pl w' x):HR (μ.add o pl) B h' w'/\Ev μ h w (μ.add o pl) h' w' o (o+1):=by
 have hle:=Mp.gV (pl:=pl) ho
 have hold:∀ j y,h j=some y->∃ q,μ j=some q/\ju μ q w y:=k.ob
 have aN:∀ j y,h j=some y->j≠o:=λj y hj e=>by obtain ⟨q,h1,_⟩:=k.ob j y hj;subst e;rw[ho] at h1;cases h1
 have hq:∀ j q,j≠o->(μ.add o pl) j=some q->μ j=some q:=λj q e hq=>by unfold Mp.add at hq;rw[zaj e] at hq;exact hq
 refine ⟨⟨zau k.size hs,λj y hj=>?_,λj y q hj hy h9=>?_,λj cs q hj h9=>?_,λj j' y y' q q' gD hj de hy qJ ra jv=>?_⟩,
  hle,λj e1 e2=>?_,nb,wk,wm,hs,λb bY _=>hb b bY,λb bY ⟨j,y,q,h1,h2,h3,h4⟩=>?_,zce _,λj hj=>by rw[hh];split<;>simp_all⟩
 ·rw[hh] at hj
  by_cases e:j=o
  ·rw[zam e] at hj;cases hj;subst e;exact ⟨pl,Mp.add_same,iE⟩
  ·rw[zaj e] at hj
   obtain ⟨q,h1,h2⟩:=k.ob j y hj
   refine ⟨q,hle _ _ h1,?_⟩
   cases hy:live y with
   | true=>exact h2.mono hle (hb _ (k.low j y q hj hy h1).2)
   | false =>
    cases y with
    | g=>trivial
    | k cs=>exact h2.mono hle (hb _ (by have:=k.nX j cs q hj h1;have:=k.size;omega))
    | _=>cases hy
 ·rw[hh] at hj
  by_cases e:j=o
  ·subst e;rw[Mp.add_same] at h9;cases h9;exact ⟨by have:=k.size;omega,aG⟩
  ·rw[zaj e] at hj
   have:=k.low j y q hj hy (hq j q e h9)
   exact ⟨this.1,by omega⟩
 ·rw[hh] at hj
  by_cases e:j=o
  ·rw[zam e] at hj;cases hj;exact absurd rfl (mX cs)
  ·rw[zaj e] at hj;exact k.nX j cs q hj (hq j q e h9)
 ·rw[hh] at hj de
  by_cases e:j=o
  ·by_cases e':j'=o
   ·exact absurd (e.trans e'.symm) gD
   ·rw[zaj e'] at de
    subst e
    rw[Mp.add_same] at ra;cases ra
    have:=(k.low j' y' q' de qJ (hq j' q' e' jv)).2
    omega
  ·rw[zaj e] at hj
   by_cases e':j'=o
   ·subst e'
    rw[Mp.add_same] at jv;cases jv
    have:=(k.low j y q hj hy (hq j q e ra)).2
    omega
   ·rw[zaj e'] at de
    exact k.sep j j' y y' q q' gD hj de hy qJ (hq j q e ra) (hq j' q' e' jv)
 ·by_cases e:j=o
  ·omega
  ·unfold Mp.add at e2;rw[zaj e] at e2;exact absurd e1 e2
 ·rw[hh] at h1
  by_cases e:j=o
  ·subst e;rw[Mp.add_same] at h3;cases h3;omega
  ·rw[zaj e] at h1;exact ⟨j,y,q,h1,h2,hq j q e h3,h4⟩
end Go.CI
namespace Go.CI
open Go.RowKit
open Go.Abs
def bA (P:uF) (T:Tr TI):Prop:=∀ t i,T.get t=some i->qU P t=some i
theorem ti {P:uF} {T:Tr TI} (hT:bA P T) {t:Nat} {i:TI} (h:T.get t=some i) :
  ∃ inf d,P.info? t=some inf/\P.underlying t=some d/\i=⟨bz P d,inf.size,kI P t,dn P (gi d),kI P (gi d),nw P (gi d),nw P t,kh P t,Go.Abs.bu P t,ln P (gi d)⟩:=by
 have:=hT t i h
 unfold qU at this
 split at this
 ·rename_i inf d h1 h2;cases this;exact ⟨inf,d,h1,h2,rfl⟩
 ·cases this
theorem lF (μ:Mp):∀ cs:O uB,Rs μ (qS cs) cs
 | []=>.nil
 | v::l=>by
  cases v with
  | string s=>exact .cons (.s s.data.toList) (lF μ l)
  | _=>exact .cons (.c _) (lF μ l)
theorem kr:∀ {l:O uB},qT l=true->∀ u∈l,u.oneCell'=true
 | [],_,u,h=>by cases h
 | v::l,h,u,hu=>by
  unfold qT at h
  split at h
  ·rename_i hv
   rcases zbi.1 hu with rfl|hu
   ·exact hv
   ·exact kr h u hu
  ·cases h
theorem dY (μ:Mp) (z:uB):R μ (tH z) z:=by
 unfold tH
 split
 ·rename_i s;exact .s s.data.toList
 ·split
  ·rename_i h;exact .a (lF μ _) (kr h)
  ·exact .c _
 ·exact .f _ .nil
 ·exact .c _
theorem au {μ:Mp} {env:Tr V} {tmps:uD uB} (h:ER μ env tmps) {x:uG} {v:V} (hx:ev env x=some v):R μ v (Act.eval ⟨tmps,[]⟩ x):=by
 cases x with
 | tmp t =>
  obtain ⟨u,h1,h2⟩:=h t v hx
  have:Act.eval ⟨tmps,[]⟩ (.tmp t)=u:=by show tmps.getD t Go.undef=u;rw[zah,h1];rfl
  rw[this];exact h2
 | const z=>cases hx;exact dY μ z
 | global g=>cases hx
 | func f=>cases hx;exact .f f .nil
theorem dv {μ:Mp} {env:Tr V} {tmps:uD uB} (h:ER μ env tmps):∀ {l:O uG} {vs:O V},wj env l vs->Rs μ vs (l.map (Act.eval ⟨tmps,[]⟩))
 | [],[],_=>.nil
 | x::l,v::vs,⟨h1,h2⟩=>.cons (au h h1) (dv h h2)
theorem nB {v:uB} (h:v.oneCell'=true):v.cells=#[v]:=by cases v<;>first|rfl|cases h
theorem bW {μ:Mp} {v:V} {cs:O V} {u:uB} (h:cells v=some cs) (hr:R μ v u):Rs μ cs u.cells.toList/\∀ x∈u.cells.toList,x.oneCell'=true:=by
 have one:∀ (hu:u.oneCell'=true) (hc:cs=[v]),Rs μ cs u.cells.toList/\∀ x∈u.cells.toList,x.oneCell'=true:=λhu hc=>by
  subst hc
  rw[nB hu]
  exact ⟨.cons hr .nil,λx hx=>by simp at hx;subst hx;exact hu⟩
 cases hr with
 | c v =>
  unfold cells at h
  split at h
  ·rename_i heq;cases heq
  ·cases h
  ·rename_i v' heq
   cases heq
   split at h
   ·rename_i hv;cases h;exact one hv rfl
   ·cases h
  ·rename_i h1;exact absurd rfl (h1 _)
 | a h1 h2=>cases h;exact ⟨h1,h2⟩
 | t=>cases h
 | s=>cases h;exact one rfl rfl
 | p=>cases h;exact one rfl rfl
 | l=>cases h;exact one rfl rfl
 | z=>cases h;exact one rfl rfl
 | m=>cases h;exact one rfl rfl
 | f=>cases h;exact one rfl rfl
 | y=>cases h;exact one rfl rfl
theorem eU {P:uF} {t:Nat} (hn:∀ l,kI P t≠.t l):∃ inf z,P.info? t=some inf/\inf.zero=some z/\kI P t=tH z/\z.cells.size=inf.size:=by
 unfold kI at hn ⊢
 split
 ·rename_i i hi
  split
  ·rename_i z hz
   split
   ·rename_i hb;exact ⟨i,z,hi,hz,rfl,zae hb⟩
   ·rename_i hb;simp only[hi,hz,hb] at hn;exact absurd rfl (hn [])
  ·rename_i hz;simp only[hi,hz] at hn;exact absurd rfl (hn [])
 ·rename_i hi;simp only[hi] at hn;exact absurd rfl (hn [])
theorem dL {P:uF} {t:Nat} {cs:O V} (h:cells (kI P t)=some cs):∃ inf z,P.info? t=some inf/\inf.zero=some z/\kI P t=tH z/\z.cells.size=inf.size :=
 eU λl e=>by rw[e] at h;cases h
def PS (P:uF) (μ:Mp) (s:Sem Next) (v:V):Prop:=∃ u,(∀ w,s.run P w=.ok (.value u) w)/\R μ v u
section pure
variable {P:uF} {T:Tr TI} {r:S1} {μ:Mp} {env:Tr V} {tmps:uD uB}
def iK (P:uF) (env:Tr V) (o:Op) (v:V):Prop :=
 ∀ μ tmps (d:Option Tmp) (ty:Nat) (pos:String) (af:uD Edge) (g:Option (Nat×Bool)),ER μ env tmps->PS P μ (execOp (Act.eval ⟨tmps,[]⟩) ⟨d,o,ty,pos,af,g⟩) v
theorem mo {x:uG} {k:V->X S1} (h:aL env x k=.v r):∃ v,k v=.v r/\iK P env (.move x) v/\iK P env (.assign x) v:=by
 obtain ⟨v,h1,h⟩:=az h
 exact ⟨v,h,λμ tmps d ty pos af g he=>⟨_,λw=>rfl,au he h1⟩,λμ tmps d ty pos af g he=>⟨_,λw=>rfl,au he h1⟩⟩
theorem R.bool {b:Bool} {u:uB} (h:R μ (.c (.bool b)) u):u=.bool b:=by cases h;rfl
theorem R.int {j:IntKind} {n:Int} {u:uB} (h:R μ (.c (.int j n)) u):u=.int j n:=by cases h;rfl
theorem rb {c a b:uG} {k:V->X S1} (h:(aL env c λc=>oN env c a b k)=.v r):∃ v,k v=.v r/\iK P env (.pick c a b) v:=by
 obtain ⟨v,h1,h⟩:=az h
 unfold oN at h
 split at h
 ·obtain ⟨x,h2,h⟩:=az h
  refine ⟨x,h,λμ tmps d ty pos af g he=>⟨_,λw=>?_,au he h2⟩⟩
  simp[execOp,(au he h1).bool,asBool]
 ·obtain ⟨x,h2,h⟩:=az h
  refine ⟨x,h,λμ tmps d ty pos af g he=>⟨_,λw=>?_,au he h2⟩⟩
  simp[execOp,(au he h1).bool,asBool]
 ·cases h
theorem tX {x:uG} {k:V->X S1} (h:(aL env x λx=>qW x k)=.v r):∃ v,k v=.v r/\iK P env (.nilCheck x) v:=by
 obtain ⟨v,h1,h⟩:=az h
 have hk:k v=.v r:=by unfold qW at h;split at h<;>first|exact h|cases h
 refine ⟨v,hk,λμ tmps d ty pos af g he=>⟨Act.eval ⟨tmps,[]⟩ x,λw=>?_,au he h1⟩⟩
 have hr:=au he h1
 unfold qW at h
 split at h
 ·generalize hu:Act.eval ⟨tmps,[]⟩ x=u at hr
  cases hr;simp[execOp,hu]
 ·generalize hu:Act.eval ⟨tmps,[]⟩ x=u at hr
  cases hr;simp[execOp,hu]
 ·generalize hu:Act.eval ⟨tmps,[]⟩ x=u at hr
  cases hr;simp[execOp,hu]
 ·cases h
theorem tY {x:uG} {i:Nat} {k:V->X S1} (h:(aL env x λx=>tP x i k)=.v r):∃ v,k v=.v r/\iK P env (.extract x i) v:=by
 obtain ⟨v,h1,h⟩:=az h
 unfold tP at h
 split at h
 ·rename_i cs
  rw[c6] at h
  split at h
  ·rename_i c hc
   refine ⟨c,h,λμ tmps d ty pos af g he=>?_⟩
   have hr:=au he h1
   generalize hu:Act.eval ⟨tmps,[]⟩ x=u at hr
   cases hr with
   | t hs =>
    obtain ⟨y,hy,hR⟩:=hs.get hc
    refine ⟨y,λw=>?_,hR⟩
    simp[execOp,hu,Instr.extract,hy]
  ·cases h
 ·cases h
theorem re {f:Nat} {fs cs:uD uG} {k:V->X S1} (hf:fs.toList=[]) (h:(kJ env cs.toList λcs=>k (.f f cs))=.v r):∃ v,k v=.v r/\iK P env (.makeFunc (.func f) fs cs) v:=by
 obtain ⟨vs,h1,h⟩:=dX h
 refine ⟨_,h,λμ tmps d ty pos af g he=>⟨_,λw=>rfl,?_⟩⟩
 obtain ⟨fs⟩:=fs
 simp at hf
 subst hf
 obtain ⟨cs⟩:=cs
 simp only[List.map_toArray,List.map_nil]
 exact .f f (dv he h1)
theorem yy {op:UnOp} {x:V} {k:V->X S1} (h:un op x k=.v r):∃ v,k v=.v r/\∀ μ u,R μ x u->∃ z,(∀ w,(Op.unary op u).run P w=.ok z w)/\R μ v z:=by
 unfold un at h
 split at h
 ·split at h
  ·rw[kq] at h
   exact ⟨_,h,λμ u hr=>by cases hr;exact ⟨_,λw=>rfl,.c _⟩⟩
  ·cases h
 ·split at h
  ·rw[gU] at h
   exact ⟨_,h,λμ u hr=>by cases hr;exact ⟨_,λw=>rfl,.c _⟩⟩
  ·cases h
 ·cases h
theorem wo {op:UnOp} {t:Nat} {x:uG} {k:V->X S1} (h:(aL env x λx=>un op x k)=.v r):∃ v,k v=.v r/\iK P env (.unOp op t x) v:=by
 obtain ⟨v,h1,h⟩:=az h
 obtain ⟨z,h2,h3⟩:=yy (P:=P) h
 refine ⟨z,h2,λμ tmps d ty pos af g he=>?_⟩
 obtain ⟨u,a,b⟩:=h3 μ _ (au he h1)
 exact ⟨u,λw=>by simp[execOp,a w],b⟩
theorem tZ {op:BinOp} {j j':IntKind} {t:Nat} {a b:Int} {k:V->X S1} (hj:j=j'∨op=.shl∨op=.shr) (h:ny op j a b k=.v r):∃ v,k v=.v r/\∀ μ,∃ z,(∀ w,(binOp op t (.int j a) (.int j' b)).run P w=.ok z w)/\R μ v z:=by
 have hk:(op≠.shl/\op≠.shr->j=j'):=λh=>by rcases hj with h1|h1|h1<;>simp_all
 cases op<;>simp only[ny] at h
 case shl =>
  split at h
  ·cases h
  ·rename_i hb
   rw[gU] at h
   exact ⟨_,h,λμ=>⟨_,λw=>by simp only[binOp,Op.shift];rw[zaj (by simpa using hb)];rfl,.c _⟩⟩
 case shr =>
  split at h
  ·cases h
  ·rename_i hb
   rw[gU] at h
   exact ⟨_,h,λμ=>⟨_,λw=>by simp only[binOp,Op.shift];rw[zaj (by simpa using hb)];rfl,.c _⟩⟩
 case quo =>
  have:=hk (by simp);subst this
  split at h
  ·cases h
  ·rename_i hb
   rw[gU] at h
   exact ⟨_,h,λμ=>⟨_,λw=>by simp only[binOp,Op.intDiv];rw[zaj (by simp),zaj (by simpa using hb)];rfl,.c _⟩⟩
 case rem =>
  have:=hk (by simp);subst this
  split at h
  ·cases h
  ·rename_i hb
   rw[gU] at h
   exact ⟨_,h,λμ=>⟨_,λw=>by simp only[binOp,Op.intDiv];rw[zaj (by simp),zaj (by simpa using hb)];rfl,.c _⟩⟩
 all_goals
  have:=hk (by simp);subst this
  first
  | (rw[gU] at h;exact ⟨_,h,λμ=>⟨_,λw=>by simp only[binOp,Op.intArith,Op.intBits];rw[zaj (by simp)];rfl,.c _⟩⟩)
  | (rw[kq] at h;exact ⟨_,h,λμ=>⟨_,λw=>by simp[binOp,Op.intCmp];try rfl,.c _⟩⟩)
end pure
end Go.CI
