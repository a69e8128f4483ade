/- Our own texts of this seat. -/
import Derived.WalkKit
import Derived.Below
import Derived.Lib.ItoaNum
import Derived.AtR
import Derived.Defers
import Derived.Laws.RangeString
import Derived.Laws.RangeAny
import Derived.Laws.MakeOwn
import Derived.Laws.CopyRow
set_option linter.all false
set_option maxRecDepth 100000
set_option maxHeartbeats 1000000
namespace Go
abbrev LQ:=List
abbrev LX:=Option
abbrev uA:=UInt8
abbrev uB:=Value
abbrev uC:=World
abbrev uD:=Array
abbrev uE:=TypeId
abbrev uG:=Program
abbrev uH:=Operand
end Go
namespace Go
abbrev zaa:=@if_neg
abbrev zab:=@if_pos
abbrev zac:=@Option.bind_some
abbrev zad:=@List.getElem?_eq_some_iff
abbrev zae:=@Nat.le_of_ble_eq_true
abbrev zaf:=@List.getElem?_eq_getElem
abbrev zag:=@Nat.le_refl
abbrev zah:=@List.getElem?_take
abbrev zai:=@Nat.eq_of_beq_eq_true
abbrev zaj:=@List.getElem?_append_left
abbrev zak:=@List.mem_cons_of_mem
abbrev zal:=@List.mem_cons_self
abbrev zam:=@Bool.and_eq_true
abbrev zan:=@List.getElem?_append_right
abbrev zao:=@List.mem_cons
abbrev zap:=@List.length_cons
abbrev zaq:=@congrArg
abbrev zar:=@List.length_append
abbrev zas:=@List.append_assoc
abbrev zat:=@List.pairwise_cons
abbrev zau:=@List.getElem?_map
abbrev zav:=@List.mem_of_getElem?
abbrev zaw:=@List.length_take
abbrev zax:=@List.eq_nil_of_length_eq_zero
abbrev zay:=@Bool.false_eq_true
abbrev zaz:=@Nat.lt_of_lt_of_le
abbrev zba:=@Array.getD_eq_getD_getElem?
abbrev zbb:=@List.map_cons
abbrev zbc:=@List.length_drop
abbrev zbd:=@List.getElem?_drop
abbrev zbe:=@Array.getElem?_eq_some_iff
abbrev zbf:=@List.all_eq_true
abbrev zbg:=@List.getElem?_set
abbrev zbh:=@Nat.zero_add
abbrev zbi:=@List.mem_append
abbrev zbj:=@List.take_of_length_le
abbrev zbk:=@of_decide_eq_true
abbrev zbl:=@Array.getElem?_eq_getElem
abbrev zbm:=@List.getD_eq_getElem?_getD
abbrev zbn:=@Nat.mul_le_mul_right
abbrev zbo:=@decide_eq_true_iff
abbrev zbp:=@List.size_toArray
abbrev zbq:=@if_false
abbrev zbr:=@List.append_nil
abbrev zbs:=@List.drop_of_length_le
abbrev zbt:=@Bool.eq_iff_iff
abbrev zbu:=@List.getElem?_eq_none
abbrev zbv:=@List.ext_getElem?
abbrev zbw:=@not_true_eq_false
abbrev zbx:=@Array.length_toList
abbrev zby:=@List.filter_cons
abbrev zbz:=@List.nodup_cons
abbrev zca:=@List.mem_of_mem_drop
abbrev zcb:=@List.length_map
abbrev zcc:=@decide_eq_true_eq
abbrev zcd:=@List.map_append
abbrev zce:=@if_true
abbrev zcf:=@Array.getElem?_toList
abbrev zcg:=@List.mem_singleton
abbrev zch:=@List.drop_eq_nil_of_le
abbrev zci:=@Nat.le_trans
abbrev zcj:=@Bool.or_eq_true
abbrev zck:=@List.mem_map
abbrev zcl:=@Int.toNat_natCast
abbrev zcm:=@List.length_singleton
abbrev zcn:=@List.length_pos_iff
abbrev zco:=@List.mem_of_mem_take
abbrev zcp:=@Option.map_eq_some_iff
abbrev zcq:=@Ne.symm
abbrev zcr:=@List.mem_iff_getElem?
abbrev zcs:=@List.nil_append
abbrev zct:=@Nat.add_zero
abbrev zcu:=@Nat.add_mul
abbrev zcv:=@Array.getElem?_setIfInBounds
abbrev zcw:=@Nat.add_assoc
abbrev zcx:=@List.mem_filter
abbrev zcy:=@Option.isSome_iff_exists
abbrev zcz:=@List.take_append_drop
abbrev zda:=@Nat.mul_comm
abbrev zdb:=@of_decide_eq_false
abbrev zdc:=@List.filter_eq_self
abbrev zdd:=@List.toList_toArray
abbrev zde:=@UInt8.lt_iff_toNat_lt
abbrev zdf:=@Nat.lt_succ_self
abbrev zdg:=@Nat.div_lt_of_lt_mul
abbrev zdh:=@Nat.mod_two_eq_zero_or_one
abbrev zdi:=@List.nodup_append
abbrev zdj:=@List.flatten_append
abbrev zdk:=@List.drop_eq_getElem_cons
abbrev zdl:=@Nat.mod_eq_of_lt
abbrev zdm:=@BitVec.ofInt_natCast
abbrev zdn:=@decide_eq_false_iff_not
abbrev zdo:=@Nat.zero_le
abbrev zdp:=@Array.getElem?_append_left
abbrev zdq:=@Nat.mod_lt
abbrev zdr:=@Option.getD_some
abbrev zds:=@decide_eq_true
abbrev zdt:=@BitVec.toNat_ofNat
abbrev zdu:=@List.length_nil
abbrev zdv:=@List.pairwise_append
abbrev zdw:=@Int.mul_le_mul_of_nonneg_right
abbrev zdx:=@List.filter_congr
abbrev zdy:=@Bool.not_eq_true'
abbrev zdz:=@List.any_cons
abbrev zea:=@Bool.or_false
abbrev zeb:=@List.take_append_of_le_length
abbrev zec:=@Int.eq_ofNat_of_zero_le
abbrev zed:=@List.map_toArray
abbrev zee:=@Array.getElem?_push_lt
abbrev zef:=@Nat.beq_refl
abbrev zeg:=@Nat.div_add_mod
abbrev zeh:=@List.singleton_append
abbrev zei:=@Bool.true_and
abbrev zej:=@List.flatMap_cons
abbrev zek:=@Nat.le_succ
abbrev zel:=@List.map_nil
abbrev zem:=@List.not_mem_nil
abbrev zen:=@List.mem_map_of_mem
abbrev zeo:=@List.map_congr_left
abbrev zep:=@List.filter_cons_of_neg
abbrev zeq:=@Bool.not_true
abbrev zer:=@UInt8.toNat_ofNat'
abbrev zes:=@beq_iff_eq
abbrev zet:=@UInt8.toNat_inj
abbrev zeu:=@List.append_of_mem
abbrev zev:=@List.mapM_toArray
abbrev zew:=@List.any_eq_false
abbrev zex:=@Nat.le_of_eq
abbrev zey:=@List.take_take
abbrev zez:=@List.mem_zipIdx_iff_getElem?
abbrev zfa:=@getElem!_pos
abbrev zfb:=@List.drop_drop
abbrev zfc:=@Option.bind_none
abbrev zfd:=@Int.fdiv_eq_ediv_of_nonneg
abbrev zfe:=@List.map_take
abbrev zff:=@List.filterMap_cons
abbrev zfg:=@List.foldl_cons
abbrev zfh:=@Decidable.byContradiction
abbrev zfi:=@Nat.add_comm
abbrev zfj:=@List.filter_filter
abbrev zfk:=@List.filter_append
abbrev zfl:=@List.drop_take
abbrev zfm:=@List.drop_left
abbrev zfn:=@Bool.not_false
abbrev zfo:=@List.flatten_cons
abbrev zfp:=@not_false_eq_true
abbrev zfq:=@List.filter_eq_nil_iff
abbrev zfr:=@Bool.false_or
abbrev zfs:=@List.map_drop
abbrev zft:=@List.getElem_mem
abbrev zfu:=@decide_eq_decide
abbrev zfv:=@Array.toList_map
abbrev zfw:=@UInt8.le_iff_toNat_le
abbrev zfx:=@List.set_getElem_self
abbrev zfy:=@Nat.ble_eq_true_of_le
abbrev zfz:=@Array.toArray_toList
abbrev zga:=@Nat.min_eq_left
abbrev zgb:=@Bool.or_eq_false_iff
abbrev zgc:=@List.length_take_le'
abbrev zgd:=@Int.toNat_of_nonneg
abbrev zge:=@Array.toList_append
abbrev zgf:=@List.take_left
abbrev zgg:=@Int.mul_nonneg
abbrev zgh:=@Int.le_refl
end Go
namespace Go.Abs
def GL:List (Nat×uD uB):=[(2,(Go.Lib.pow10Tab.map λz=>Value.int .u64 z).toArray)]
def GI:List Nat:=[0]
end Go.Abs
namespace Go.Abs
open Go.RowKit
inductive D where
 | ex (v:uB)
 | agg (cs:List D)
 | dp (cs:List D)
 | sl (sz:Nat) (rows:List (List D))
 | ro (cs:List D)
 | e0 (sz:Nat)
 | any
inductive cq (lim:Nat->Nat) (w:uC):D->uB->Prop where
 | ex (v:uB):cq lim w (.ex v) v
 | agg (cs:List D) (vs:uD uB) (hs:vs.size=cs.length)
   (h1:∀(i:Nat) (u:uB),vs[i]?=some u->u.oneCell'=true)
   (h:∀(i:Nat) c (u:uB),cs[i]?=some c->vs[i]?=some u->cq lim w c u):cq lim w (.agg cs) (.agg vs)
 | dp (cs:List D) (vs:uD uB) (hs:vs.size=cs.length)
   (h:∀(i:Nat) c (u:uB),cs[i]?=some c->vs[i]?=some u->cq lim w c u):cq lim w (.dp cs) (.tuple vs)
 | nil (sz:Nat) (A:Option Addr):cq lim w (.sl sz []) (.slice A 0 0)
 | sl (sz:Nat) (rows:List (List D)) (b off cap:Nat) (hc:rows.length<=cap) (hr:∀row,row∈rows->row.length=sz)
   (hx:∀k,k<rows.length*sz->off+k<lim b/\∃u:uB,w.cell? ⟨b,off+k,none⟩=some u/\u.oneCell'=true)
   (h:∀(i j:Nat) row c (u:uB),rows[i]?=some row->row[j]?=some c->w.cell? ⟨b,off+(i*sz+j),none⟩=some u->cq lim w c u) :
   cq lim w (.sl sz rows) (.slice (some ⟨b,off,none⟩) rows.length cap)
 | ro (cs:List D) (b off:Nat)
   (hx:∀k,k<cs.length->off+k<lim b/\∃u:uB,w.cell? ⟨b,off+k,none⟩=some u/\u.oneCell'=true)
   (h:∀(j:Nat) c (u:uB),cs[j]?=some c->w.cell? ⟨b,off+j,none⟩=some u->cq lim w c u):cq lim w (.ro cs) (.pointer (some ⟨b,off,none⟩))
 | e0 (sz:Nat) (A:Option Addr) (h:A=none∨∃b off,A=some ⟨b,off,none⟩):cq lim w (.e0 sz) (.slice A 0 0)
 | any (v:uB):cq lim w .any v
structure Pw(l:Nat->Nat)(w:uC)(l':Nat->Nat)(w':uC):Prop where
 size:w.heap.size<=w'.heap.size
 lim:∀b:Nat,b<w.heap.size->l b<=l' b
 cell:∀b off:Nat,b<w.heap.size->off<l b->w'.cell? ⟨b,off,none⟩=w.cell? ⟨b,off,none⟩
def Pw.refl lim(w):Pw lim w lim w:=⟨zag _,λ_ _=>zag _,λ_ _ _ _=>rfl⟩
def Pw.trans{l1 l2 l3 w a c}(h:Pw l1 w l2 a)(k:Pw l2 a l3 c):Pw l1 w l3 c:=
 ⟨zci h.size k.size,λb H=>zci (h.lim b H) (k.lim b (zaz H h.size)),
  λb off H d=>(k.cell b off (zaz H h.size) (zaz d (h.lim b H))).trans (h.cell b off H d)⟩
def Kt{i j n sz:Nat}(hi:i<n)(h:j<sz):i*sz+j<n*sz:=by
 have:(i+1)*sz<=n*sz:=zbn sz hi;rw[zcu]at this;omega
def cq.mono{lim f w w'}(e:Pw lim w f w'){x v}(h:cq lim w x v):cq f w' x v:=by
 induction h with
 | ex v=>exact .ex v
 | agg cs vs hs h1 _ a=>exact .agg cs vs hs h1 a
 | dp cs vs hs _ a=>exact .dp cs vs hs a
 | nil sz A=>exact .nil sz A
 | sl sz rows b off cap l g hx _ a =>
  have d:∀k,k<rows.length*sz->w'.cell? ⟨b,off+k,none⟩=w.cell? ⟨b,off+k,none⟩:=by
   intro k hk;obtain⟨hl,u,H,_⟩:=hx k hk;exact e.cell b (off+k) (World.block_lt_of_cell? w _ H) hl
  refine .sl sz rows b off cap l g ?_ ?_
  .intro k hk;obtain⟨hl,u,H,h1⟩:=hx k hk;exact⟨zaz hl (e.lim b (World.block_lt_of_cell? w _ H)),u,(d k hk).trans H,h1⟩
  .intro i j row c u hi m H;refine a i j row c u hi m ?_;rw[←d (i*sz+j) ?_]
   .exact H
   .have hl:=g row (zav hi);exact Kt (zad.1 hi).1 (by rw[←hl];grind)
 | ro cs b off hx _ a =>
  have d:∀k,k<cs.length->w'.cell? ⟨b,off+k,none⟩=w.cell? ⟨b,off+k,none⟩:=by
   intro k hk;obtain⟨hl,u,H,_⟩:=hx k hk;exact e.cell b (off+k) (World.block_lt_of_cell? w _ H) hl
  refine .ro cs b off ?_ ?_
  .intro k hk;obtain⟨hl,u,H,h1⟩:=hx k hk;exact⟨zaz hl (e.lim b (World.block_lt_of_cell? w _ H)),u,(d k hk).trans H,h1⟩
  grind
 | e0 sz A h=>exact .e0 sz A h
 | any v=>exact .any v
inductive EV where
 | d (x:D)
 | ref (o off:Nat)
 | Da (o off len cap:Nat)
 | dA (sz:Nat) (rows:List (List D)) (t:Nat)
 | mp (o:Nat)
 | xl (f:FuncId) (caps:List EV)
 | agg (cs:List EV)
 | dp (cs:List EV)
 | gd (b:Bool) (x:EV)
  | vc (t k:Nat)
  | vp (t k i off:Nat)
  | vw (t k lo n:Nat)
structure ju where
 e:uE
 sz:Nat
 n:Nat
 own:Option (List (List D))
inductive jE where
 | row (ty:uE) (cs:List EV)
 | map (es:List (uB×EV))
 | raw (x:Obj)
 | gone
structure St where
 aB:List jE
 ag:List ju
structure eI where
 lim:Nat->Nat
 ob:Nat->Nat
 tk:Nat->uB
def Emp(v:uB)(n:Nat):= n=0/\∃A,v=.slice A 0 0
inductive aY (g:eI) (w:uC) (st:St):EV->uB->Prop where
 | d (x:D) (v:uB) (h:cq g.lim w x v):aY g w st (.d x) v
 | ref (o off:Nat) (h:o<st.aB.length):aY g w st (.ref o off) (.pointer (some ⟨g.ob o,off,none⟩))
 | Da (o off len cap:Nat) (h:o<st.aB.length):aY g w st (.Da o off len cap) (.slice (some ⟨g.ob o,off,none⟩) len cap)
 | dA (sz:Nat) (rows:List (List D)) (t:Nat) (v:uB) (e:uE) (n:Nat) (hd:cq g.lim w (.sl sz rows) v) (ht:st.ag[t]?=some ⟨e,sz,n,none⟩)
   (hn:rows.length<=n) (hv:rows.length=n->v=g.tk t∨Emp v n):aY g w st (.dA sz rows t) v
 | mp (o:Nat) (h:o<st.aB.length):aY g w st (.mp o) (.map (some (g.ob o)))
 | xl (f:FuncId) (cs:List EV) (vs:uD uB) (hs:vs.size=cs.length)
   (h:∀(i:Nat) c (u:uB),cs[i]?=some c->vs[i]?=some u->aY g w st c u):aY g w st (.xl f cs) (.func (.func f) #[] vs)
 | agg (cs:List EV) (vs:uD uB) (hs:vs.size=cs.length) (h1:∀(i:Nat) (u:uB),vs[i]?=some u->u.oneCell'=true)
   (h:∀(i:Nat) c (u:uB),cs[i]?=some c->vs[i]?=some u->aY g w st c u):aY g w st (.agg cs) (.agg vs)
 | dp (cs:List EV) (vs:uD uB) (hs:vs.size=cs.length)
   (h:∀(i:Nat) c (u:uB),cs[i]?=some c->vs[i]?=some u->aY g w st c u):aY g w st (.dp cs) (.tuple vs)
 | gd (b:Bool) (x:EV) (v:uB) (h0:b=false->v=undef) (h:b=true->aY g w st x v):aY g w st (.gd b x) v
 | vc (t k:Nat) (v:uB) (ht:t<st.ag.length) (hf:∃A n c,v=.slice A n c) (h:∀x rows,st.ag[t]?=some x->x.own=some rows->k<=x.n/\(k=x.n->v=g.tk t∨Emp v x.n)):aY g w st (.vc t k) v
 | vp (t k i off:Nat) (v:uB) (ht:t<st.ag.length) (hf:∃b o,v=.pointer (some ⟨b,o,none⟩))
   (h:∀x rows,st.ag[t]?=some x->x.own=some rows->k<=x.n/\(k=x.n->∃b n c,g.tk t=.slice (some ⟨b,0,none⟩) n c/\v=.pointer (some ⟨b,i*x.sz+off,none⟩))):aY g w st (.vp t k i off) v
 | vw (t k lo n:Nat) (v:uB) (ht:t<st.ag.length) (hf:∃A c,v=.slice A n c)
   (h:∀x rows,st.ag[t]?=some x->x.own=some rows->k<=x.n/\(k=x.n->n=0∨∃b m c c',g.tk t=.slice (some ⟨b,0,none⟩) m c/\v=.slice (some ⟨b,lo*x.sz,none⟩) n c')):aY g w st (.vw t k lo n) v
structure tR(g:eI)(w:uC)(st:St)(g':eI)(w':uC)(st':St):Prop where
 bp:Pw g.lim w g'.lim w'
 ob:∀o,o<st.aB.length->g'.ob o=g.ob o
 aB:st.aB.length<=st'.aB.length
 ag:∀t e sz n,st.ag[t]?=some ⟨e,sz,n,none⟩->∃n',st'.ag[t]?=some ⟨e,sz,n',none⟩/\n<=n'/\(n'=n->g'.tk t=g.tk t)
 PF:st.ag.length<=st'.ag.length
 own:∀t x' aT,t<st.ag.length->st'.ag[t]?=some x'->x'.own=some aT->∃x rows,st.ag[t]?=some x/\x.own=some rows/\x.sz=x'.sz/\x.n<=x'.n/\(x.n=x'.n->g'.tk t=g.tk t)
def uK{g g':eI}{st st':St}(hs:∀t x' aT,t<st.ag.length->st'.ag[t]?=some x'->x'.own=some aT->st.ag[t]?=some x'/\g'.tk t=g.tk t):
  ∀t x' aT,t<st.ag.length->st'.ag[t]?=some x'->x'.own=some aT->∃x rows,st.ag[t]?=some x/\x.own=some rows/\x.sz=x'.sz/\x.n<=x'.n/\(x.n=x'.n->g'.tk t=g.tk t) :=
 λt x' aT b hx h=>⟨x',aT,(hs t x' aT b hx h).1,h,rfl,zag _,λ_=>(hs t x' aT b hx h).2⟩
def tR.refl g w(st):tR g w st g w st:=
 ⟨.refl _ _,λ_ _=>rfl,zag _,λ_ _ _ n h=>⟨n,h,zag _,λ_=>rfl⟩,zag _,uK λ_ _ _ _ h _=>⟨h,rfl⟩⟩
def tR.trans{g1 g2 g3 w b c s1 s2 s3}(h:tR g1 w s1 g2 b s2)(k:tR g2 b s2 g3 c s3):tR g1 w s1 g3 c s3:=by
 refine⟨h.bp.trans k.bp,λo H=>(k.ob o (zaz H h.aB)).trans (h.ob o H),zci h.aB k.aB,λt e sz n ht=>?_,zci h.PF k.PF,λt a r d hx H=>?_⟩
 rotate_left
 .obtain⟨x',aT,f,g,l,m,p⟩:=k.own t a r (zaz d h.PF) hx H;obtain⟨x,rows,b1,b2,q,s,u⟩:=h.own t x' aT d f g
  grind
 obtain⟨i,h1,h2,h3⟩:=h.ag t e sz n ht;obtain⟨j,v,k2,k3⟩:=k.ag t e sz i h1
 grind
def aY.mono{g g' w w' st st'}(e:tR g w st g' w' st'){x v}(h:aY g w st x v):aY g' w' st' x v:=by
 induction h with
 | d x v h=>exact .d x v (h.mono e.bp)
 | ref o off h=>rw[←e.ob o h];exact .ref o off (zaz h e.aB)
 | Da o off len cap h=>rw[←e.ob o h];exact .Da o off len cap (zaz h e.aB)
 | dA sz rows t v j n q ht hn hv =>
  obtain⟨l,h1,h2,h3⟩:=e.ag t j sz n ht;refine .dA sz rows t v j l (q.mono e.bp) h1 (zci hn h2) (λs=>?_);have u:l=n:=by omega
  simp_all
 | mp o h=>rw[←e.ob o h];exact .mp o (zaz h e.aB)
 | xl f cs vs hs _ H=>exact .xl f cs vs hs H
 | agg cs vs hs h1 _ H=>exact .agg cs vs hs h1 H
 | dp cs vs hs _ H=>exact .dp cs vs hs H
 | gd b x v h0 _ H=>exact .gd b x v h0 H
 | vc t k v ht a h =>
  refine .vc t k v (zaz ht e.PF) a λx' aT hx c=>?_
  obtain⟨x,rows,b1,b2,_,m,p⟩:=e.own t x' aT ht hx c
  grind
 | vp t k i off v ht a h =>
  refine .vp t k i off v (zaz ht e.PF) a λx' aT hx c=>?_
  obtain⟨x,rows,b1,b2,r,m,p⟩:=e.own t x' aT ht hx c
  grind
 | vw t k lo n v ht a h =>
  refine .vw t k lo n v (zaz ht e.PF) a λx' aT hx c=>?_
  obtain⟨x,rows,b1,b2,r,m,p⟩:=e.own t x' aT ht hx c
  grind
def St.live(st:St)(o:Nat):= ∃x,st.aB[o]?=some x/\x≠.gone
def jz(B:Nat)(w:uC):= (∀x∈GL,x.1<B/\∃ty fr,w.heap[x.1]?=some (.cells x.2 ty fr))/\∀k∈GI,k<B/\∃m,w.cell? ⟨k,0,none⟩=some (.int .i64 m)
def jz.below{B w w'}(h:jz B w)(H:Below B w w'):jz B w':=⟨λx hx =>
 let⟨h1,ty,fr,h2⟩:=h.1 x hx
 ⟨h1,ty,fr,(H.block _ h1).trans h2⟩,λk hk =>
 let⟨h1,m,h2⟩:=h.2 k hk
 ⟨h1,m,(H.cell (p:=⟨k,0,none⟩) h1).trans h2⟩⟩
def jz.mono{B H w}(h:jz B w)(a:B<=H):jz H w:=⟨λx hx =>
 let⟨h1,h2⟩:=h.1 x hx
 ⟨zaz h1 a,h2⟩,λk hk =>
 let⟨h1,h2⟩:=h.2 k hk
 ⟨zaz h1 a,h2⟩⟩
structure bY(lim:Nat->Nat)(w:uC)(sz n:Nat)(rows:List (List D))(xs:List uB):Prop where
 len:rows.length=n
 row:∀r,r∈rows->r.length=sz
 rep:∀(i:Nat) c (u:uB),rows.flatten[i]?=some c->xs[i]?=some u->cq lim w c u/\u.oneCell'=true
def bY.mono{lim H w w' sz n rows xs}(h:bY lim w sz n rows xs)(e:Pw lim w H w'):bY H w' sz n rows xs:=
 ⟨h.len,h.row,λi c u a b=>⟨(h.rep i c u a b).1.mono e,(h.rep i c u a b).2⟩⟩
structure Inv(g:eI)(B:Nat)(w:uC)(st:St):Prop where
 base:B<=w.heap.size
 row:∀o ty cs,st.aB[o]?=some (.row ty cs)->B<=g.ob o/\g.lim (g.ob o)=0 /\
  ∃vs:uD uB,w.heap[g.ob o]?=some (.cells vs ty (0,0))/\vs.size=cs.length/\∀(i:Nat) c (u:uB),cs[i]?=some c->vs[i]?=some u->aY g w st c u/\u.oneCell'=true
 map:∀o es,st.aB[o]?=some (.map es)->B<=g.ob o /\
  ∃(ms:uD MapEntry) (clock:Nat),w.heap[g.ob o]?=some (.map ms clock)/\ms.size=es.length /\
   (∀(i:Nat) k x (m:MapEntry),es[i]?=some (k,x)->ms[i]?=some m->m.key=k/\aY g w st x m.val) /\
   (∀(i:Nat) (m:MapEntry),ms[i]?=some m->m.born<clock) /\
   (∀(i j:Nat) (m m':MapEntry),ms[i]?=some m->ms[j]?=some m'->m.born=m'.born->i=j)
 raw:∀o x,st.aB[o]?=some (.raw x)->B<=g.ob o/\g.lim (g.ob o)=0/\w.heap[g.ob o]?=some x
 ne:∀o o',o≠o'->st.live o->st.live o'->g.ob o≠g.ob o'
 tail:∀t e sz n,st.ag[t]?=some ⟨e,sz,n,none⟩->∃xs,w.ownsRow B e sz (g.tk t) n xs/\∀b,(g.tk t).ownBlock=some b->g.lim b=n*sz
 mo:∀t t' x x' b,t≠t'->st.ag[t]?=some x->st.ag[t']?=some x'->(g.tk t).ownBlock=some b->(g.tk t').ownBlock≠some b
 gh:∀t x o,st.ag[t]?=some x->st.live o->(g.tk t).ownBlock≠some (g.ob o)
 tS:jz B w
 own:∀t e sz n rows,st.ag[t]?=some ⟨e,sz,n,some rows⟩->∃xs,w.ownsRow B e sz (g.tk t) n xs/\(∀b,(g.tk t).ownBlock=some b->g.lim b=0)/\bY g.lim w sz n rows xs
def Inv.anyTail{g B w st}(h:Inv g B w st){t x}(hx:st.ag[t]?=some x):∃xs,w.ownsRow B x.e x.sz (g.tk t) x.n xs:=by
 obtain⟨e,sz,n,own⟩:=x;cases own with
 | none=>obtain⟨xs,h1,_⟩:=h.tail t e sz n hx;grind
 | some rows=>obtain⟨xs,h1,_⟩:=h.own t e sz n rows hx;grind
def Inv.vF{g B w st}(h:Inv g B w st){t x}(hx:st.ag[t]?=some x){b}(H:(g.tk t).ownBlock=some b):B<=b/\b<w.heap.size:=by
 obtain⟨xs,h1⟩:=h.anyTail hx;exact h1.lt b H
def ew{w w':uC}{B e sz n:Nat}{v xs}(h:w.ownsRow B e sz v n xs)(a:∀b,v.ownBlock=some b->w'.heap[b]?=w.heap[b]?):w'.ownsRow B e sz v n xs:=by
 obtain⟨k,k2⟩:=h;refine⟨k,?_⟩;rcases k2 with k2|⟨g,cap,cur,H,c,d,f⟩
 .grind
 .exact .inr ⟨g,cap,cur,H,c,by rw[a g (by rw[H];rfl)];exact d,f⟩
def tg(g:eI)(st:St)(b:Nat):= (∃o,st.live o/\g.ob o=b)∨∃t x,st.ag[t]?=some x/\(g.tk t).ownBlock=some b
abbrev Env:=List (Nat×EV)
def lookup(i:Nat):Env->Option EV
 | []=>none
 | (j,x)::e=>match Nat.beq i j with
  | true=>some x
  | false=>lookup i e
def cT(g:eI)(w:uC)(st:St)(env:Env)(tmps:uD uB):=
 ∀i x,lookup i env=some x->∃v:uB,tmps[i]?=some v/\aY g w st x v
def cT.mono{g g' w w' st st' env tmps}(e:tR g w st g' w' st')(h:cT g w st env tmps):cT g' w' st' env tmps:=
 λi x hx=>let⟨v,h1,h2⟩:=h i x hx;⟨v,h1,h2.mono e⟩
def cT.put{g w st env tmps d x v}(h:cT g w st env tmps)(H:d<tmps.size)(hv:aY g w st x v):
  cT g w st ((d,x)::env) (tmps.setIfInBounds d v):=by
 intro i y hy;unfold lookup at hy;by_cases hi:i=d
 .simp_all
 .have:Nat.beq i d=false:=by
   cases a:Nat.beq i d with
   | false=>rfl
   | true=>simp_all
  rw[this]at hy;obtain⟨u,h1,h2⟩:=h i y hy
  grind
structure Start where
 g:eI
 w:uC
 st:St
 base:Nat
structure rk(S:Start)(g:eI)(w:uC)(st:St):Prop where
 cU:tR S.g S.w S.st g w st
 below:Below S.base S.w w
 lim:∀b,b<S.base->g.lim b=S.g.lim b
 frame:∀b,b<S.w.heap.size->¬tg S.g S.st b->w.heap[b]?=S.w.heap[b]?/\g.lim b=S.g.lim b
 fresh:∀b,b<S.w.heap.size->tg g st b->tg S.g S.st b
def mh(S:Start)(Q:EV->St->Prop)(e:Ending)(w:uC):=
 ∃v r st g,e=.returned v/\Q r st/\aY g w st r v/\Inv g S.base w st/\rk S g w st
structure Ctx where
 fn:FuncId
 ds:List Deferred
 ro:Option Nat
 dk:Bool
@[reducible] def Ctx.of(f:FuncId):Ctx:=⟨f,[],none,false⟩
def bf(f:Ctx):= { (default:Frame)with fn:=f.fn,kind:=match f.dk with|true=>.deferred|false=>.normal,roundOf:=f.ro }
def Ctx.fin(P:uG)(f:Ctx)(fr:Frame)(w:uC)(e:Ending):Prop:=
 match f.ro with
 | none=>match f.dk with
  | false=>fr.fn=f.fn/\fr.leaving P w e
  | true=>fr.kind=.deferred/\fr.going P w e
 | some _=>e=.returned (.bool true)/\∃tmps,fr=(bf f).atR ⟨tmps,f.ds⟩ []
def bT(P:uG)(f:Ctx)(R:Ending->uC->Prop)(todo:List Item)(tmps:uD uB)(w:uC):=
 ∀cs,∃e w' fr,R e w'/\Comes P (lone ((bf f).atR ⟨tmps,f.ds⟩ todo) cs w) (lone fr cs w') e/\f.fin P fr w' e
def bT.step{P f R todo t tmps z w w'}
  (h:∀cs,step P (lone ((bf f).atR ⟨tmps,f.ds⟩ todo) cs w)=.next (lone ((bf f).atR ⟨z,f.ds⟩ t) cs w')) (k:bT P f R t z w'):bT P f R todo tmps w:=by
 intro cs;obtain⟨e,H,fr,a,b,h1⟩:=k cs;exact⟨e,H,fr,a,Comes.of_steps (.one (h cs)) b,h1⟩
def bT.mono{P f R H todo tmps w}(h:bT P f R todo tmps w)(d:∀e w,R e w->H e w):bT P f H todo tmps w:=
 λcs=>let⟨e,w',fr,a,b,c⟩:=h cs;⟨e,w',fr,d _ _ a,b,c⟩
def Bj{ro ρ o P w w' x}(e:(execOp ρ o).run P w=.ok x w')(hx:∀d,x≠.defer d):Oper.semAt ro ρ o=execOp ρ o:=by
 refine Oper.semAt_eq ro ρ o λc H=>?_
 have:∀{x:Next} {w':uC},(execOp ρ o).run P w=.ok x w'->∃d,x=.defer d:=by
  intro x w' h;simp only[execOp,H,Sem.run_bind]at h;cases h2:(resolve ρ c o.type).run P w with
  | halt a b=>rw[h2]at h;cases h
  | ok d f=>rw[h2]at h;simp at h;grind
 simp_all
section ops
variable {P:uG}{f:Ctx}{R:Ending->uC->Prop}{k:List Item}{tmps:uD uB}{w:uC}{ops:uD Oper}{i:Nat}{rest:List Nat}{o:Oper}
def put_eq ds dst(v):Act.put ⟨tmps,ds⟩ dst v=⟨(Act.put ⟨tmps,[]⟩ dst v).tmps,ds⟩:=by cases dst<;>rfl
def Bl ds(tmps):Act.eval ⟨tmps,ds⟩=Act.eval ⟨tmps,[]⟩:=by funext x;cases x<;>rfl
def bT.value{v w'}(H:ops[i]?=some o)(hw:Region.wanted o (yielded ops tmps)=true)
  (c:(execOp (Act.eval ⟨tmps,[]⟩) o).run P w=.ok (.value v) w') (h:bT P f R (.inRegion ops rest::k) (Act.put ⟨tmps,[]⟩ o.dst v).tmps w') :
  bT P f R (.inRegion ops (i::rest)::k) tmps w:=by
 refine bT.step (λcs=>?_) h;have d:=stepGR_op (P:=P) (b:=bf f) (a:=⟨tmps,f.ds⟩) (k:=k) (cs:=cs) (w:=w) (rest:=rest) H hw;rw[Bl,Bj c (by simp)]at d;have e:∀v,((bf f).atR ⟨tmps,f.ds⟩ (.inRegion ops (i::rest)::k)).finish v=(bf f).atR (Act.put ⟨tmps,f.ds⟩ o.dst v) (.inRegion ops rest::k):=by
  intro v;rw[Frame.finish_atR,H];rfl
 refine step_lone_go ?_;rw[←put_eq,d,←e];simp[stepG.apply,c]
def bT.skip{w'}(H:ops[i]?=some o)(hw:Region.wanted o (yielded ops tmps)=true)
  (c:(execOp (Act.eval ⟨tmps,[]⟩) o).run P w=.ok .skip w') (h:bT P f R (.inRegion ops rest::k) (Act.put ⟨tmps,[]⟩ o.dst undef).tmps w') :
  bT P f R (.inRegion ops (i::rest)::k) tmps w:=by
 refine bT.step (λcs=>?_) h;have d:=stepGR_op (P:=P) (b:=bf f) (a:=⟨tmps,f.ds⟩) (k:=k) (cs:=cs) (w:=w) (rest:=rest) H hw;rw[Bl,Bj c (by simp)]at d;have e:∀v,((bf f).atR ⟨tmps,f.ds⟩ (.inRegion ops (i::rest)::k)).finish v=(bf f).atR (Act.put ⟨tmps,f.ds⟩ o.dst v) (.inRegion ops rest::k):=by
  intro v;rw[Frame.finish_atR,H];rfl
 refine step_lone_go ?_;rw[←put_eq,d,←e];simp[stepG.apply,c]
def bT.rW(H:ops[i]?=some o)(hw:Region.wanted o (yielded ops tmps)=false)
  (h:bT P f R (.inRegion ops rest::k) (Act.put ⟨tmps,[]⟩ o.dst undef).tmps w):bT P f R (.inRegion ops (i::rest)::k) tmps w:=by
 refine bT.step (λcs=>?_) h;have hs:=stepR_op_skip (P:=P) (b:=bf f) (a:=⟨tmps,f.ds⟩) (k:=k) (cs:=cs) (w:=w) (ops:=ops) (i:=i) (rest:=rest) (by simp_all);simp only[H,zac]at hs;rw[←put_eq];exact hs
def bT.call{f' args w'}(c:ops[i]?=some o)(hw:Region.wanted o (yielded ops tmps)=true)
  (d:(execOp (Act.eval ⟨tmps,[]⟩) o).run P w=.ok (.enter f' args) w')
  (h:Calls P f' args w' λe g=>∃v,e=.returned v/\bT P f R (.inRegion ops rest::k) (Act.put ⟨tmps,[]⟩ o.dst v).tmps g) :
  bT P f R (.inRegion ops (i::rest)::k) tmps w:=by
 intro cs;have j:=stepGR_op (P:=P) (b:=bf f) (a:=⟨tmps,f.ds⟩) (k:=k) (cs:=cs) (w:=w) (rest:=rest) c hw;rw[Bl,Bj d (by simp)]at j;have l:∀v,((bf f).atR ⟨tmps,f.ds⟩ (.inRegion ops (i::rest)::k)).finish v=(bf f).atR (Act.put ⟨tmps,f.ds⟩ o.dst v) (.inRegion ops rest::k):=by
  intro v;rw[Frame.finish_atR,c];rfl
 obtain⟨e,g,fr,⟨v,rfl,m⟩,F,_,n⟩:=h ((bf f).atR ⟨tmps,f.ds⟩ (.inRegion ops (i::rest)::k)::cs);have p:Go.step P (lone ((bf f).atR ⟨tmps,f.ds⟩ (.inRegion ops (i::rest)::k)) cs w) =
   .next (lone (Frame.enter P f' args .normal) ((bf f).atR ⟨tmps,f.ds⟩ (.inRegion ops (i::rest)::k)::cs) w') :=
  step_lone_go (by rw[j];simp[stepG.apply,d,Frame.atR])
 obtain⟨e,q,H,r,s,h1⟩:=m cs;refine⟨e,q,H,r,Comes.of_steps (.head p (F.trans (.one ?_))) s,h1⟩;rw[←put_eq,←l];exact step_leave_returned n
def bT.Dd(h:bT P f R k tmps w):bT P f R (.inRegion ops []::k) tmps w:=bT.step (λ_=>stepR_region_end) h
end ops
section control
variable {P:uG}{f:Ctx}{R:Ending->uC->Prop}{k:List Item}{tmps:uD uB}{w:uC}
def bT.seq{x y}(h:bT P f R (.code x::.code y::k) tmps w):bT P f R (.code (.seq x y)::k) tmps w:=bT.step (λ_=>stepR_seq) h
def bT.skipC(h:bT P f R k tmps w):bT P f R (.code .skip::k) tmps w:=bT.step (λ_=>stepR_skip) h
def bT.Wl{l}(h:bT P f R k tmps w):bT P f R (.code (.label l)::k) tmps w:=bT.step (λ_=>stepR_label) h
def bT.inBlock{id}(h:bT P f R k tmps w):bT P f R (.inBlock id::k) tmps w:=bT.step (λ_=>stepR_inBlock) h
def bT.block{id c}(h:bT P f R (.code c::.inBlock id::k) tmps w):bT P f R (.code (.block id c)::k) tmps w:=bT.step (λ_=>stepR_block) h
def bT.loop{c}(h:bT P f R (.code c::.inLoop c::k) tmps w):bT P f R (.code (.loop c)::k) tmps w:=bT.step (λ_=>stepR_loop) h
def bT.inLoop{c}(h:bT P f R (.code c::.inLoop c::k) tmps w):bT P f R (.inLoop c::k) tmps w:=bT.step (λ_=>stepR_inLoop) h
def bT.exit{id k'}(hk:exitTo id k=some k')(h:bT P f R k' tmps w):bT P f R (.code (.exit id)::k) tmps w:=bT.step (λ_=>stepR_exit hk) h
def bT.goto{l k'}(hk:gotoIn l k=some k')(h:bT P f R k' tmps w):bT P f R (.code (.goto l)::k) tmps w:=bT.step (λ_=>stepR_goto hk) h
def bT.cond{c x y t}(H:Act.eval ⟨tmps,[]⟩ c=.bool t)(h:bT P f R (.code (if t then x else y)::k) tmps w):bT P f R (.code (.cond c x y)::k) tmps w:=
 bT.step (λ_=>stepR_cond (by rw[Bl];exact H)) h
def bT.region{id ops}(h:bT P f R (.inRegion ops (List.range ops.size)::k) tmps w):bT P f R (.code (.region id ops false)::k) tmps w:=bT.step (λ_=>stepR_region) h
def bT.vH{id ops}(h:∀t,bT P f R (.inRegion ops (Region.schedule (P.follows .mixedOrders) ops t)::k) tmps { w with drawn:=w.drawn+1 }):
  bT P f R (.code (.region id ops true)::k) tmps w:=bT.step (λ_=>stepR_region_draw) (h _)
def bT.ret{f fn v}(h:P.funcs[f]?=some fn)(H:(results fn tmps).run P w=.ok v w)(a:R (.returned v) w):bT P (.of f) R (.code .ret::k) tmps w:=
 λcs=>⟨.returned v,w,_,a,.one (stepR_ret rfl),rfl,rfl,rfl,rfl,fn,h,H⟩
def bT.fin{f fn v}(h:P.funcs[f]?=some fn)(H:(results fn tmps).run P w=.ok v w)(a:R (.returned v) w):bT P (.of f) R [] tmps w:=
 λcs=>⟨.returned v,w,_,a,.one (stepR_end rfl),rfl,rfl,rfl,rfl,fn,h,H⟩
def bT.Bm{f l}(h:R (.returned (.bool true)) w):bT P ⟨f,[],some l,false⟩ R [] tmps w:=
 λcs=>⟨.returned (.bool true),w,_,h,Steps.refl _ _,rfl,tmps,rfl⟩
def bT.calls{f fn c args}(H:P.funcs[f]?=some fn)(a:fn.body=some c)
  (h:bT P (.of f) R [.code c] (args++Array.replicate (fn.ntmps-args.size) undef) w):Calls P f args w R:=by
 intro cs;have v:Frame.enter P f args .normal=(bf (.of f)).atR ⟨args++Array.replicate (fn.ntmps-args.size) undef,[]⟩ [.code c]:=by
  simp[Frame.enter,Frame.atR,H,a,bf]
 obtain⟨e,w',fr,d,b,h1,h2⟩:=h cs;rw[←v]at b
 grind
end control
structure Step(base:Nat)(g:eI)(w:uC)(st:St)(g':eI)(w':uC)(st':St):Prop where
 cU:tR g w st g' w' st'
 below:Below base w w'
 lim:∀b,b<base->g'.lim b=g.lim b
 frame:∀b,b<w.heap.size->¬tg g st b->w'.heap[b]?=w.heap[b]?/\g'.lim b=g.lim b
 fresh:∀b,b<w.heap.size->tg g' st' b->tg g st b
def Step.refl base g w(st):Step base g w st g w st:=⟨.refl _ _ _,.refl _ _,λ_ _=>rfl,λ_ _ _=>⟨rfl,rfl⟩,λ_ _ h=>h⟩
def Step.trans{base g1 g2 g3 w c d s1 s2 s3}(h:Step base g1 w s1 g2 c s2)(k:Step base g2 c s2 g3 d s3):Step base g1 w s1 g3 d s3:=
 ⟨h.cU.trans k.cU,h.below.trans k.below,λb H=>(k.lim b H).trans (h.lim b H),
  λb H hn=>have e:=k.frame b (zaz H h.cU.bp.size) (λa=>hn (h.fresh b H a));have h1:=h.frame b H hn;⟨e.1.trans h1.1,e.2.trans h1.2⟩,
  λb H a=>h.fresh b H (k.fresh b (zaz H h.cU.bp.size) a)⟩
def rk.step{S g g' w w' st st'}(h:rk S g w st)(k:Step S.base g w st g' w' st'):rk S g' w' st':=
 ⟨h.cU.trans k.cU,h.below.trans k.below,λb H=>(k.lim b H).trans (h.lim b H),
  λb H hn=>have c:=k.frame b (zaz H h.cU.bp.size) (λa=>hn (h.fresh b H a));have h1:=h.frame b H hn;⟨c.1.trans h1.1,c.2.trans h1.2⟩,
  λb H a=>h.fresh b H (k.fresh b (zaz H h.cU.bp.size) a)⟩
def rk.refl(S):rk S S.g S.w S.st:=⟨.refl _ _ _,.refl _ _,λ_ _=>rfl,λ_ _ _=>⟨rfl,rfl⟩,λ_ _ h=>h⟩
def rk.toStep{S g w st}(h:rk S g w st):Step S.base S.g S.w S.st g w st:=⟨h.cU,h.below,h.lim,h.frame,h.fresh⟩
def aE(P:uG)(f:Ctx)(N:Nat)(S:Start)(Q:EV->St->Prop)(todo:List Item)(env:Env)(st:St):=
 ∀g w tmps,Inv g S.base w st->rk S g w st->cT g w st env tmps->tmps.size=N->bT P f (mh S Q) todo tmps w
def cv:uB->D
 | .agg cs=>if cs.toList.all (·.oneCell')then .agg (cs.toList.map D.ex)else .ex (.agg cs)
 | v=>.ex v
def nC lim w(v):cq lim w (cv v) v:=by
 cases v<;>simp only[cv]<;>try exact .ex _
 rename_i cs;split
 .rename_i h;refine .agg _ _ (by simp) ?_ ?_
  .grind
  .intro i c u H a;rw[zau]at H;have:cs.toList[i]?=some u:=by simp_all
   rw[this]at H;simp only[Option.map_some,Option.some.injEq]at H;subst H;exact .ex u
 .exact .ex _
def bp(env:Env):uH->Option EV
 | .tmp t=>lookup t env
 | .const (.agg cs)=>match cs.toList.all (·.oneCell')with
  | true=>some (.d (.agg (cs.toList.map D.ex)))
  | false=>some (.d (.ex (.agg cs)))
 | .const v=>some (.d (.ex v))
 | .func f=>some (.d (.ex (.func (.func f) #[] #[])))
 | .global _=>none
def Uf env(v):bp env (.const v)=some (.d (cv v)):=by
 cases v<;>try rfl
 rename_i cs;simp only[bp,cv];cases cs.toList.all (·.oneCell')<;>rfl
def aq{g w st env tmps}(h:cT g w st env tmps){x e}(hx:bp env x=some e):aY g w st e (Act.eval ⟨tmps,[]⟩ x):=by
 cases x with
 | tmp t =>
  obtain⟨v,h1,h2⟩:=h t e hx;simp only[Act.eval,zba,h1,zdr];exact h2
 | const v =>
  rw[Uf,Option.some.injEq]at hx;subst hx;exact .d _ _ (nC _ _ v)
 | func f =>
  simp only[bp,Option.some.injEq]at hx;subst hx;exact .d _ _ (.ex _)
 | _=>simp[bp]at hx
section inv
variable {g:eI}{w:uC}{st:St}{v:uB}
def aY.aO{u}(h:aY g w st (.d (.ex u)) v):v=u:=by
 cases h with|d _ _ h=>cases h;rfl
end inv
section control
variable {P:uG}{f:Ctx}{N:Nat}{S:Start}{Q:EV->St->Prop}{k:List Item}{env:Env}{st:St}
def aE.seq{x y}(h:aE P f N S Q (.code x::.code y::k) env st):aE P f N S Q (.code (.seq x y)::k) env st:=λg w t a b c d=>.seq (h g w t a b c d)
def aE.skip(h:aE P f N S Q k env st):aE P f N S Q (.code .skip::k) env st:=λg w t a b c d=>.skipC (h g w t a b c d)
def aE.label{l}(h:aE P f N S Q k env st):aE P f N S Q (.code (.label l)::k) env st:=λg w t a b c d=>.Wl (h g w t a b c d)
def aE.inBlock{id}(h:aE P f N S Q k env st):aE P f N S Q (.inBlock id::k) env st:=λg w t a b c d=>.inBlock (h g w t a b c d)
def aE.block{id c}(h:aE P f N S Q (.code c::.inBlock id::k) env st):aE P f N S Q (.code (.block id c)::k) env st:=λg w t a b c d=>.block (h g w t a b c d)
def aE.inLoop{c}(h:aE P f N S Q (.code c::.inLoop c::k) env st):aE P f N S Q (.inLoop c::k) env st:=λg w t a b c d=>.inLoop (h g w t a b c d)
def aE.Wm{c}(h:aE P f N S Q (.code c::.inLoop c::k) env st):aE P f N S Q (.code (.loop c)::k) env st:=λg w t a b c d=>.loop (h g w t a b c d)
def aE.exit{id k'}(hk:exitTo id k=some k')(h:aE P f N S Q k' env st):aE P f N S Q (.code (.exit id)::k) env st:=λg w t a b c d=>.exit hk (h g w t a b c d)
def aE.cond{c x y b}(a:bp env c=some (.d (.ex (.bool b))))(ht:b=true->aE P f N S Q (.code x::k) env st)(e:b=false->aE P f N S Q (.code y::k) env st):
  aE P f N S Q (.code (.cond c x y)::k) env st:=by
 intro g w t hi H h hn;refine bT.cond (t:=b) (aq h a).aO ?_;cases b with
 | true=>exact ht rfl g w t hi H h hn
 | false=>exact e rfl g w t hi H h hn
def eB(x y:EV):= ∀g w st v,aY g w st x v->aY g w st y v
def eB.aW(x):eB x x:=λ_ _ _ _ h=>h
def eB.dA sz rows(t):eB (.dA sz rows t) (.d (.sl sz rows)):=λ_ _ _ v h=>by cases h with|dA _ _ _ _ _ _ H _ _ _=>exact .d _ _ H
def eB.nil(sz):eB (.d (.ex (.slice none 0 0))) (.d (.sl sz [])):=λ_ _ _ v h=>by cases h.aO;exact .d _ _ (.nil sz _)
def D.RO{lim w sz v}(h:cq lim w (.e0 sz) v):cq lim w (.sl sz []) v:=by
 cases h with
 | e0 _ A h =>
  rcases h with rfl|⟨b,off,rfl⟩
  .exact .nil sz _
  .exact .sl sz [] b off 0 (zag _) (by simp) (by simp) (by simp)
def eB.e0(sz):eB (.d (.e0 sz)) (.d (.sl sz [])):=λ_ _ _ v h=>by cases h with|d _ _ h=>exact .d _ _ (D.RO h)
def eB.eq{x y}(h:x=y):eB x y:=h▸eB.aW x
def dG(env:Env):Env->Prop
 | []=>True
 | (i,y)::t=>(∃x,lookup i env=some x/\eB x y)/\dG env t
def dG.get{env}:∀{env'},dG env env'->∀i y,lookup i env'=some y->∃x,lookup i env=some x/\eB x y
 | [],_,i,y,h=>by simp[lookup]at h
 | (j,z)::t,⟨⟨x,hx,hle⟩,ht⟩,i,y,h=>by
  unfold lookup at h;cases H:Nat.beq i j with
  | true =>
   rw[H]at h;simp_all
  | false =>
   rw[H]at h;exact ht.get i y h
def cT.sub{g w tmps env env'}(h:cT g w st env tmps)(hs:dG env env'):cT g w st env' tmps:=by
 intro i y hy;obtain⟨x,hx,H⟩:=hs.get i y hy;obtain⟨v,h1,h2⟩:=h i x hx;exact⟨v,h1,H _ _ _ _ h2⟩
def aE.sub{todo env'}(hs:dG env env')(h:aE P f N S Q todo env' st):aE P f N S Q todo env st:=
 λg w t a b c d=>h g w t a b (c.sub hs) d
def aE.loop{c}{ι:Type}(E:ι->Env)(T:ι->St)(I:ι->Prop)(μ:ι->Nat) i0(h0:I i0)(h:dG env (E i0))(hT:st=T i0)
  (step:∀i,I i->(∀j,I j->μ j<μ i->aE P f N S Q (.inLoop c::k) (E j) (T j))->aE P f N S Q (.code c::.inLoop c::k) (E i) (T i)) :
  aE P f N S Q (.code (.loop c)::k) env st:=by
 have key:∀n i,μ i<n->I i->aE P f N S Q (.code c::.inLoop c::k) (E i) (T i):=by
  intro n
  induction n with
  | zero=>omega
  | succ n H =>
   intro i hi a;exact step i a λj b d=>.inLoop (H j (by omega) b)
 subst hT;exact .Wm (.sub h (key _ i0 (zdf _) h0))
def aE.seqJoin{x y}{ι:Type}(E:ι->Env)(T:ι->St)(I:ι->Prop)
  (hk:∀i,I i->aE P f N S Q (.code y::k) (E i) (T i)) (h:(∀i,I i->aE P f N S Q (.code y::k) (E i) (T i))->aE P f N S Q (.code x::.code y::k) env st) :
  aE P f N S Q (.code (.seq x y)::k) env st:=.seq (h hk)
def tup2{g w a b u v}(h1:aY g w st a u)(h2:aY g w st b v):aY g w st (.dp [a,b]) (.tuple #[u,v]):=by
 refine .dp _ _ rfl ?_
 grind
def aE.fin0{f fn}(h:P.funcs[f]?=some fn)(H:fn.results=#[])(a:Q (.dp []) st):aE P (.of f) N S Q [] env st:=by
 intro g w tmps hi b c hn;refine bT.fin h (results_none H tmps P w) ⟨_,_,st,g,rfl,a,.dp _ _ rfl (by simp),hi,b⟩
end control
def bO(P:uG)(f:Ctx)(N:Nat)(S:Start)(Q:EV->St->Prop)(ops rest:List Oper)(k:List Item)(env:Env)(st:St):=
 ∀i,(∀j:Nat,rest[j]?=ops[i+j]?)->aE P f N S Q (.inRegion ops.toArray (List.range' i rest.length)::k) env st
def Env.put(env:Env):Option Tmp->EV->Env
 | some d,x=>(d,x)::env
 | none,_=>env
def eE(N:Nat):Option Tmp->Bool
 | some d=>Nat.ble (d+1) N
 | none=>true
def pq{g w st env tmps d x v}(h:cT g w st env tmps)(H:eE tmps.size d=true)(hv:aY g w st x v):
  cT g w st (env.put d x) (Act.put ⟨tmps,[]⟩ d v).tmps:=by
 cases d with
 | none=>exact h
 | some d=>exact h.put (zae H) hv
theorem fX{tmps d v}:(Act.put ⟨tmps,[]⟩ d v).tmps.size=tmps.size:=by
 cases d<;>simp[Act.put]
section regions
variable {P:uG}{f:Ctx}{N:Nat}{S:Start}{Q:EV->St->Prop}{k:List Item}{env:Env}{st:St}{ops rest:List Oper}
def aE.region{id l}(h:bO P f N S Q l l k env st):aE P f N S Q (.code (.region id l.toArray false)::k) env st:=by
 intro g w t a b c d;refine bT.region ?_;have:=h 0 (by simp) g w t a b c d;rw[List.range_eq_range'];omega
def bO.nil(h:aE P f N S Q k env st):bO P f N S Q ops [] k env st:=λi _ g w t a b c d=>.Dd (h g w t a b c d)
def uL(P:uG)(base:Nat)(env:Env)(st:St)(o:Oper)(x:EV)(st':St):=
 ∀g w tmps,Inv g base w st->cT g w st env tmps->∃v g' w',(execOp (Act.eval ⟨tmps,[]⟩) o).run P w=.ok (.value v) w'/\aY g' w' st' x v/\Inv g' base w' st'/\Step base g w st g' w' st'
def ID(P:uG)(base:Nat)(env:Env)(st:St)(o:Oper)(st':St):=
 ∀g w tmps,Inv g base w st->cT g w st env tmps->∃g' w',(execOp (Act.eval ⟨tmps,[]⟩) o).run P w=.ok .skip w'/\Inv g' base w' st'/\Step base g w st g' w' st'
def aG(P:uG)(env:Env)(st:St)(o:Oper)(x:EV):=
 ∀g base w tmps,Inv g base w st->cT g w st env tmps->∃v,aY g w st x v/\∀w',Below w.heap.size w w'->(execOp (Act.eval ⟨tmps,[]⟩) o).run P w'=.ok (.value v) w'
def gi{i n}:List.range' i (n+1)=i::List.range' (i+1) n:=by rw[List.range'_succ]
def bO.op{o x st'}(b:o.guard=none)(c:eE N o.dst=true)(h:uL P S.base env st o x st')(hk:bO P f N S Q ops rest k (env.put o.dst x) st'):
  bO P f N S Q ops (o::rest) k env st:=by
 intro i hi g w tmps H d a hn;obtain⟨v,g',w',e,hx,l,hs⟩:=h g w tmps H a;have m:ops.toArray[i]?=some o:=by simpa using (hi 0).symm
 have n:Region.wanted o (yielded ops.toArray tmps)=true:=by simp[Region.wanted,b]
 rw[zap,gi];refine bT.value m n e ?_;subst hn;exact hk (i+1) (λj=>by have:=hi (j+1);grind) g' w' _ l (d.step hs) (pq (a.mono hs.cU) c hx) fX
def bO.opU{o st'}(b:o.guard=none)(c:eE N o.dst=true)(h:ID P S.base env st o st')(hk:bO P f N S Q ops rest k (env.put o.dst (.d .any)) st'):
  bO P f N S Q ops (o::rest) k env st:=by
 intro i hi g w tmps H e a hn;obtain⟨g',w',l,m,hs⟩:=h g w tmps H a;have n:ops.toArray[i]?=some o:=by simpa using (hi 0).symm
 have p:Region.wanted o (yielded ops.toArray tmps)=true:=by simp[Region.wanted,b]
 rw[zap,gi];refine bT.skip n p l ?_;subst hn;exact hk (i+1) (λj=>by have:=hi (j+1);grind) g' w' _ m (e.step hs) (pq (a.mono hs.cU) c (.d _ _ (.any _))) fX
end regions
section q
variable {P:uG}{env:Env}{st:St}{d:Option Tmp}{ty:uE}{pos:String}{after:uD Edge}{gd:Option (Nat×Bool)}
def rX{x e}(hx:bp env x=some e):aG P env st ⟨d,.move x,ty,pos,after,gd⟩ e:=
 λg base w tmps hi h=>⟨_,aq h hx,λ_ _=>rfl⟩
def F6{x e}(hx:bp env x=some e):aG P env st ⟨d,.assign x,ty,pos,after,gd⟩ e:=
 λg base w tmps hi h=>⟨_,aq h hx,λ_ _=>rfl⟩
def mG{o r}(h:∀g w tmps w',cT g w st env tmps->(execOp (Act.eval ⟨tmps,[]⟩) o).run P w'=.ok (.value r) w'):aG P env st o (.d (.ex r)):=
 λg base w tmps hi H=>⟨r,.d _ _ (.ex r),λw' _=>h g w tmps w' H⟩
variable {t t2:uE}{x y:uH}
section two
variable {k:IntKind}{a b:Int}(hx:bp env x=some (.d (.ex (.int k a))))(hy:bp env y=some (.d (.ex (.int k b))))
include hx hy
theorem q_lss:aG P env st ⟨d,.binOp .lss t x y t2,ty,pos,after,gd⟩ (.d (.ex (.bool (decide (a<b))))):=mG λg w tmps w' h=>by
 simp[execOp,(aq h hx).aO,(aq h hy).aO,eqGuard,binOp,Op.intCmp]
theorem q_leq:aG P env st ⟨d,.binOp .leq t x y t2,ty,pos,after,gd⟩ (.d (.ex (.bool (decide (a<=b))))):=mG λg w tmps w' h=>by
 simp[execOp,(aq h hx).aO,(aq h hy).aO,eqGuard,binOp,Op.intCmp]
theorem q_gtr:aG P env st ⟨d,.binOp .gtr t x y t2,ty,pos,after,gd⟩ (.d (.ex (.bool (decide (a > b))))):=mG λg w tmps w' h=>by
 simp[execOp,(aq h hx).aO,(aq h hy).aO,eqGuard,binOp,Op.intCmp]
theorem q_geq:aG P env st ⟨d,.binOp .geq t x y t2,ty,pos,after,gd⟩ (.d (.ex (.bool (decide (a>=b))))):=mG λg w tmps w' h=>by
 simp[execOp,(aq h hx).aO,(aq h hy).aO,eqGuard,binOp,Op.intCmp]
theorem q_eql:aG P env st ⟨d,.binOp .eql t x y t2,ty,pos,after,gd⟩ (.d (.ex (.bool (a==b)))):=mG λg w tmps w' h=>by
 simp[execOp,(aq h hx).aO,(aq h hy).aO,eqGuard,binOp,Op.intCmp]
theorem q_neq:aG P env st ⟨d,.binOp .neq t x y t2,ty,pos,after,gd⟩ (.d (.ex (.bool (a != b)))):=mG λg w tmps w' h=>by
 simp[execOp,(aq h hx).aO,(aq h hy).aO,eqGuard,binOp,Op.intCmp]
theorem q_add{c}(H:k.wrap (a+b)=c):aG P env st ⟨d,.binOp .add t x y t2,ty,pos,after,gd⟩ (.d (.ex (.int k c))):=mG λg w tmps w' h=>by
 simp[execOp,(aq h hx).aO,(aq h hy).aO,eqGuard,binOp,Op.intArith,H]
theorem q_sub{c}(H:k.wrap (a-b)=c):aG P env st ⟨d,.binOp .sub t x y t2,ty,pos,after,gd⟩ (.d (.ex (.int k c))):=mG λg w tmps w' h=>by
 simp[execOp,(aq h hx).aO,(aq h hy).aO,eqGuard,binOp,Op.intArith,H]
theorem q_mul{c}(H:k.wrap (a*b)=c):aG P env st ⟨d,.binOp .mul t x y t2,ty,pos,after,gd⟩ (.d (.ex (.int k c))):=mG λg w tmps w' h=>by
 simp[execOp,(aq h hx).aO,(aq h hy).aO,eqGuard,binOp,Op.intArith,H]
theorem q_quo{c}(H:b≠0)(e:k.wrap (a.tdiv b)=c):aG P env st ⟨d,.binOp .quo t x y t2,ty,pos,after,gd⟩ (.d (.ex (.int k c))):=mG λg w tmps w' h=>by
 simp[execOp,(aq h hx).aO,(aq h hy).aO,eqGuard,binOp,Op.intDiv,H,e]
theorem q_rem{c}(H:b≠0)(e:a.tmod b=c):aG P env st ⟨d,.binOp .rem t x y t2,ty,pos,after,gd⟩ (.d (.ex (.int k c))):=mG λg w tmps w' h=>by
 simp[execOp,(aq h hx).aO,(aq h hy).aO,eqGuard,binOp,Op.intDiv,H,e]
theorem PH{op c}(q:op=.and∨op=.or∨op=.xor∨op=.andNot)(H:∀w,(Op.intBits op k a b).run P w=.ok (.int k c) w):
  aG P env st ⟨d,.binOp op t x y t2,ty,pos,after,gd⟩ (.d (.ex (.int k c))):=mG λg w tmps w' h=>by
 rcases q with rfl|rfl|rfl|rfl<;>simp[execOp,(aq h hx).aO,(aq h hy).aO,eqGuard,binOp,H]
end two
section shift
variable {k k':IntKind}{a b:Int}(hx:bp env x=some (.d (.ex (.int k a))))(hy:bp env y=some (.d (.ex (.int k' b))))
include hx hy
theorem MM{c}(e:0<=b)(H:k.wrap (a*2 ^ min b.toNat k.bits)=c):aG P env st ⟨d,.binOp .shl t x y t2,ty,pos,after,gd⟩ (.d (.ex (.int k c))):=mG λg w tmps w' h=>by
 have:¬b<0:=by omega
 simp[execOp,(aq h hx).aO,(aq h hy).aO,eqGuard,binOp,Op.shift,this,H]
theorem Wn{c}(e:0<=b)(H:a.fdiv (2 ^ min b.toNat k.bits)=c):aG P env st ⟨d,.binOp .shr t x y t2,ty,pos,after,gd⟩ (.d (.ex (.int k c))):=mG λg w tmps w' h=>by
 have:¬b<0:=by omega
 simp[execOp,(aq h hx).aO,(aq h hy).aO,eqGuard,binOp,Op.shift,this,H]
end shift
section strings
variable {a b:List uA}(hx:bp env x=some (.d (.ex (.string ⟨a.toArray⟩))))(hy:bp env y=some (.d (.ex (.string ⟨b.toArray⟩))))
include hx hy
theorem q_seql:aG P env st ⟨d,.binOp .eql t x y t2,ty,pos,after,gd⟩ (.d (.ex (.bool (a==b)))):=mG λg w tmps w' h=>by
 simp[execOp,(aq h hx).aO,(aq h hy).aO,eqGuard,binOp,Op.stringOp]
theorem q_sneq:aG P env st ⟨d,.binOp .neq t x y t2,ty,pos,after,gd⟩ (.d (.ex (.bool (a != b)))):=mG λg w tmps w' h=>by
 simp[execOp,(aq h hx).aO,(aq h hy).aO,eqGuard,binOp,Op.stringOp,bne]
end strings
def Ae(ht:P.underlying t=some .bool)(a b) n(w):(Op.equalIn (n+1) t (.bool a) (.bool b)).run P w=.ok (a==b) w:=by
 simp[Op.equalIn,run_underlying ht]
section bools
variable {a b:Bool}(hx:bp env x=some (.d (.ex (.bool a))))
include hx
theorem q_not:aG P env st ⟨d,.unOp .not t x,ty,pos,after,gd⟩ (.d (.ex (.bool !a))):=mG λg w tmps w' h=>by
 simp[execOp,(aq h hx).aO,Op.unary]
theorem Wo(ht:P.underlying t=some .bool)(hy:bp env y=some (.d (.ex (.bool b)))):aG P env st ⟨d,.binOp .eql t x y t2,ty,pos,after,gd⟩ (.d (.ex (.bool (a==b)))):=mG λg w tmps w' H=>by
 have h:=Ae ht a b 9999 w';simp[execOp,(aq H hx).aO,(aq H hy).aO,eqGuard,binOp,Op.equal,Op.maxDepth,h]
theorem Wp(ht:P.underlying t=some .bool)(hy:bp env y=some (.d (.ex (.bool b)))):aG P env st ⟨d,.binOp .neq t x y t2,ty,pos,after,gd⟩ (.d (.ex (.bool (a != b)))):=mG λg w tmps w' H=>by
 have h:=Ae ht a b 9999 w';simp[execOp,(aq H hx).aO,(aq H hy).aO,eqGuard,binOp,Op.equal,Op.maxDepth,h,bne]
theorem Ug{z b q}(hy:bp env y=some (.gd a (.d (.ex (.bool b)))))(c:bp env z=some (.d (.ex (.bool q)))):
  aG P env st ⟨d,.pick x y z,ty,pos,after,gd⟩ (.d (.ex (.bool (if a then b else q)))):=mG λg w tmps w' H=>by
 cases a with
 | false=>simp[execOp,(aq H hx).aO,(aq H c).aO,asBool]
 | true =>
  have:=aq H hy;cases this with
  | gd _ _ _ h0 h=>simp[execOp,(aq H hx).aO,(h rfl).aO,asBool]
theorem Wq{z b q}(hy:bp env y=some (.d (.ex (.bool q))))(c:bp env z=some (.gd (!a) (.d (.ex (.bool b))))):
  aG P env st ⟨d,.pick x y z,ty,pos,after,gd⟩ (.d (.ex (.bool (if a then q else b)))):=mG λg w tmps w' H=>by
 cases a with
 | true=>simp[execOp,(aq H hx).aO,(aq H hy).aO,asBool]
 | false =>
  have:=aq H c;cases this with
  | gd _ _ _ h0 h=>simp[execOp,(aq H hx).aO,(h rfl).aO,asBool]
end bools
def qG{k k' n c}(hs:P.underlying t=some (.int k))(ht:P.underlying t2=some (.int k'))(hx:bp env x=some (.d (.ex (.int k n))))(h:k'.wrap n=c):
  aG P env st ⟨d,.convert t t2 x,ty,pos,after,gd⟩ (.d (.ex (.int k' c))):=mG λg w tmps w' H=>by
 simp[execOp,(aq H hx).aO,convert,run_underlying hs,run_underlying ht,Conv.intToInt,h]
def q_neg{k n c}(hx:bp env x=some (.d (.ex (.int k n))))(h:k.wrap (0-n)=c):
  aG P env st ⟨d,.unOp .neg t x,ty,pos,after,gd⟩ (.d (.ex (.int k c))):=mG λg w tmps w' H=>by
 simp only[execOp,(aq H hx).aO,Op.unary,Op.intArith,h,Sem.run_bind,Sem.run_pure,Result.andThen_ok]
def q_lenS{a:LQ uA}(ht:P.underlying t=some .string)(hx:bp env x=some (.d (.ex (.string ⟨a.toArray⟩)))):
  aG P env st ⟨d,.call ⟨.builtin .len,#[x],#[t]⟩,ty,pos,after,gd⟩ (.d (.ex (.int .i64 a.length))):=mG λg w tmps w' h=>by
 simp[execOp,(aq h hx).aO,resolve,invoke,builtin,Builtin.len_,run_underlying ht,goInt,ByteArray.size_mk']
def Bn{e}(ht:P.underlying t=some (.slice e)){ρ A}{n c:Nat}(hv:ρ x=.slice A n c) w:
  (execOp ρ ⟨d,.call ⟨.builtin .len,#[x],#[t]⟩,ty,pos,after,gd⟩).run P w=.ok (.value (.int .i64 n)) w:=by
 simp[execOp,hv,resolve,invoke,builtin,Builtin.len_,run_underlying ht,goInt]
def yF{lim w sz rows v}(h:cq lim w (.sl sz rows) v):∃A c,v=.slice A rows.length c:=by
 cases h with
 | nil _ A=>simp_all
 | sl _ _ b off cap=>simp_all
def Wr{a:LQ uA}{k i c}(ht:P.underlying t=some .string)(hx:bp env x=some (.d (.ex (.string ⟨a.toArray⟩))))(hy:bp env y=some (.d (.ex (.int k i))))
  (h0:0<=i) (h:a[i.toNat]?=some c):aG P env st ⟨d,.index t x y,ty,pos,after,gd⟩ (.d (.ex (.int .u8 c.toNat))):=mG λg w tmps w' H=>by
 have hl:i.toNat<a.length:=(zad.1 h).1;have b:(⟨a.toArray⟩:ByteArray)[i.toNat]?=some c:=by
  rw[ByteArray.getElem?_lt' _ _ (by simpa[ByteArray.size] using hl)];have:=(zad.1 h).2;simpa[ByteArray.getElem_eq_getElem_data] using this
 simp[execOp,(aq H hx).aO,(aq H hy).aO,Instr.index,asIntOf,run_underlying ht,h0,b]
def yG{e ρ A}{n c:Nat}{k}{i:Int}{inf}(ht:P.underlying t=some (.slice e))(hi:P.info? e=some inf)
  (hv:ρ x=.slice (some A) n c) (hy:ρ y=.int k i) (h0:0<=i) (hn:i<n) w :
  (execOp ρ ⟨d,.indexAddr t x y,ty,pos,after,gd⟩).run P w=.ok (.value (.pointer (some (A.add (i.toNat*inf.size))))) w:=by
 simp[execOp,hv,hy,Instr.indexAt,asIntOf,run_underlying ht,sizeOf,typeInfo,hi,h0,hn]
def sl_ro{lim w sz rows v n row}(h:cq lim w (.sl sz rows) v)(H:rows[n]?=some row):
  ∃b off c,v=.slice (some ⟨b,off,none⟩) rows.length c/\n<rows.length/\cq lim w (.ro row) (.pointer (some (Addr.add ⟨b,off,none⟩ (n*sz)))):=by
 cases h with
 | nil=>simp at H
 | sl _ _ b off cap a g hx d =>
  have hn:=(zad.1 H).1;refine⟨b,off,cap,rfl,hn,?_⟩;rw[Addr.add_lit];have hl:=g row (zav H);refine .ro row b (off+n*sz) ?_ ?_
  .intro j e;have:=hx (n*sz+j) (Kt hn (by omega));rw[zcw];exact this
  grind
def Uh(a:∃H,P.underlying t=some H/\(∀f,H≠.struct f)/\∀n e,H≠.array n e)(w):(isAgg t).run P w=.ok false w:=by
 obtain⟨H,h,h1,h2⟩:=a;simp only[isAgg,Sem.run_bind,run_underlying h,Result.andThen_ok];cases H<;>first|rfl|exact absurd rfl (h1 _)|exact absurd rfl (h2 _ _)
def qH:TypeDesc->Bool
 | .struct _|.array _ _=>false
 | _=>true
def uM(h:(P.underlying t).map qH=some true)(w):(isAgg t).run P w=.ok false w:=by
 cases H:P.underlying t with
 | none=>rw[H]at h;simp at h
 | some a =>
  refine Uh ⟨a,H,?_,?_⟩ w
  .intro f e;subst e;rw[H]at h;simp[qH]at h
  .intro n e' e;subst e;rw[H]at h;simp[qH]at h
def yH(h:(P.underlying t).map qH=some false)(w):(isAgg t).run P w=.ok true w:=by
 cases H:P.underlying t with
 | none=>rw[H]at h;simp at h
 | some a =>
  rw[H]at h;cases a<;>simp[qH]at h<;>simp[isAgg,run_underlying H]
def PJ{cs c}(h1:(P.underlying t).map qH=some true)(hx:bp env x=some (.d (.ro (c::cs)))):aG P env st ⟨d,.load t x,ty,pos,after,gd⟩ (.d c):=λg base w tmps a e=>by
 have h:=aq e hx;generalize hv:Act.eval ⟨tmps,[]⟩ x=v at h;cases h with
 | d _ _ h =>
  cases h with
  | ro _ b off m f =>
   obtain⟨hl,u,i,_⟩:=m 0 (by simp);have A:w.cell? ⟨b,off,none⟩=some u:=by omega
   refine⟨u,.d _ _ (f 0 c u rfl i),λw' j=>?_⟩;have H:w'.cell? ⟨b,off,none⟩=some u:=(j.cell (World.block_lt_of_cell? w _ A)).trans A;simp[execOp,hv,Instr.loadAt,Instr.sureAddr,loadVar,uM h1,H]
end q
def Inv.grow{g g' base w w' st}(h:Inv g base w st)(d:Below w.heap.size w w')(hl:∀b,b<w.heap.size->g'.lim b=g.lim b)(f:g'.ob=g.ob)(ht:g'.tk=g.tk):
  Inv g' base w' st/\Step base g w st g' w' st:=by
 have hs:Step base g w st g' w' st:=by
  refine⟨⟨⟨d.size,λb H=>by rw[hl b H];omega,λb off H _=>d.cell (p:=⟨b,off,none⟩) H⟩,λ_ _=>by rw[f],zag _,λt e sz n h=>⟨n,h,zag _,λ_=>by rw[ht]⟩,zag _,uK λt x' aT _ h _=>⟨h,by rw[ht]⟩⟩,d.mono h.base,λb H=>hl b (zaz H h.base),
   λb H _=>⟨d.block b H,hl b H⟩,λb _ v=>by unfold tg at v ⊢;rw[f,ht]at v;exact v⟩
 have s:∀(b:Nat) (x:Obj),w.heap[b]?=some x->b<w.heap.size:=λb x hx=>(zbe.1 hx).1
 have l:∀o x,st.aB[o]?=some (.raw x)->base<=g'.ob o/\g'.lim (g'.ob o)=0/\w'.heap[g'.ob o]?=some x:=by
  intro o x hx;obtain⟨h1,h2,h3⟩:=h.raw o x hx;have r:=s _ _ h3;rw[f];exact⟨h1,by rw[hl _ r];exact h2,by rw[d.block _ r];exact h3⟩
 refine⟨⟨zci h.base d.size,?_,?_,l,?_,?_,?_,?_,h.tS.below hs.below,?_⟩,hs⟩
 .intro o ty cs hx;obtain⟨h1,h2,vs,h3,h4,q⟩:=h.row o ty cs hx;have r:=s _ _ h3;rw[f];refine⟨h1,by rw[hl _ r];exact h2,vs,by rw[d.block _ r];exact h3,h4,λi c u y z=>⟨(q i c u y z).1.mono hs.cU,(q i c u y z).2⟩⟩
 .intro o es hx;obtain⟨h1,B,j,h3,h4,q,C,D⟩:=h.map o es hx;have r:=s _ _ h3;rw[f];exact⟨h1,B,j,by rw[d.block _ r];exact h3,h4,λi k x m a b=>⟨(q i k x m a b).1,(q i k x m a b).2.mono hs.cU⟩,C,D⟩
 .rw[f];exact h.ne
 .intro t e sz n hx;obtain⟨xs,h1,h2⟩:=h.tail t e sz n hx;rw[ht];refine⟨xs,?_,λb H=>?_⟩
  .obtain⟨E,k2⟩:=h1;refine⟨E,?_⟩;rcases k2 with k2|⟨F,cap,cur,G,I,A,J⟩
   .grind
   .exact .inr ⟨F,cap,cur,G,I,by rw[d.block _ (s _ _ A)];exact A,J⟩
  .rw[hl b (h1.lt b H).2];simp_all
 .rw[ht];exact h.mo
 .rw[ht,f];exact h.gh
 .intro t e sz n rows hx;obtain⟨xs,h1,h2,h3⟩:=h.own t e sz n rows hx;rw[ht];exact⟨xs,ew h1 λb H=>d.block b (h1.lt b H).2,λb H=>by rw[hl b (h1.lt b H).2];simp_all,h3.mono hs.cU.bp⟩
def th(g:eI)(w:uC)(st:St)(args:List EV)(vs:uD uB):=
 vs.size=args.length/\∀(i:Nat) x v,args[i]?=some x->vs[i]?=some v->aY g w st x v
def bg(P:uG)(f:FuncId)(args:List EV)(st:St)(Q:EV->St->Prop):=
 ∀g w base vs,Inv g base w st->th g w st args vs->Calls P f vs w (mh ⟨g,w,st,base⟩ Q)
def zF(lim:Nat->Nat)(w:uC)(args:List D)(vs:uD uB):=
 vs.size=args.length/\∀(i:Nat) x v,args[i]?=some x->vs[i]?=some v->cq lim w x v
def aR(P:uG)(f:FuncId)(args:List D)(q:D->Prop):=
 ∀lim w vs,jz w.heap.size w->zF lim w args vs->Calls P f vs w λe w'=>∃v r c,e=.returned v/\q r/\cq c w' r v/\Pw lim w c w'/\Below w.heap.size w w'/\∀b,b<w.heap.size->c b=lim b
def vI:Nat->List EV->Env
 | _,[]=>[]
 | i,x::l=>(i,x)::vI (i+1) l
def tT:∀l (i j) y,lookup j (vI i l)=some y->∃k,j=i+k/\l[k]?=some y
 | [],i,j,y,h=>by simp[vI,lookup]at h
 | x::l,i,j,y,h=>by
  unfold vI lookup at h;cases H:Nat.beq j i with
  | true =>
   rw[H]at h;simp_all
  | false =>
   rw[H]at h;obtain⟨k,h1,h2⟩:=tT l (i+1) j y h;exact⟨k+1,by omega,by simp_all⟩
section enter
variable {P:uG}{f:FuncId}{fn:Func}{c:Code}{N:Nat}
def bg.enter{args st Q}(H:P.funcs[f]?=some fn)(a:fn.body=some c)(b:fn.ntmps=N)(hl:Nat.ble args.length N=true)
  (h:∀S:Start,S.st=st->aE P (.of f) N S Q [.code c] (vI 0 args) st):bg P f args st Q:=by
 intro g w base vs hi ha;have K:=zae hl;have dE:=ha.1;refine bT.calls H a ?_;refine h ⟨g,w,st,base⟩ rfl g w _ hi (rk.refl ⟨g,w,st,base⟩) ?_ (by simp_all);intro j y hy;obtain⟨k,rfl,hk⟩:=tT args 0 j y hy;have M:=(zad.1 hk).1;refine⟨vs[k]'(by omega),?_,ha.2 k y _ hk (by simp_all)⟩;rw[zbh,zdp (by omega)];simp_all
def QD(q:D->Prop)(r:EV)(_:St):= ∃x,eB r (.d x)/\q x
def aR.of{args q}(h:bg P f (args.map EV.d) ⟨[],[]⟩ (QD q)):aR P f args q:=by
 intro lim w vs H ha;have a:Inv ⟨lim,λ_=>0,λ_=>.nilFunc⟩ w.heap.size w ⟨[],[]⟩ :=
  ⟨zag _,λo ty cs h=>by simp at h,λo es h=>by simp at h,λo x h=>by simp at h,λo o' _ ⟨x,h,_⟩=>by simp at h,λt e sz n h=>by simp at h,λt m x x' b _ h=>by simp at h,λt x o h=>by simp at h,H,λt e sz n rows h=>by simp at h⟩
 refine(h _ w w.heap.size vs a ⟨by simpa using ha.1,λi x v hx hv=>?_⟩).mono ?_
 .rw[zau]at hx;cases hy:args[i]? with
  | none=>rw[hy]at hx;simp at hx
  | some y =>
   rw[hy]at hx;simp only[Option.map_some,Option.some.injEq]at hx;subst hx;exact .d _ _ (ha.2 i y v hy hv)
 .rintro e w' ⟨v,r,st',g',rfl,⟨x,c,j⟩,k,hi',g⟩;cases c _ _ _ _ k with
  | d _ _ l=>exact⟨v,x,g'.lim,rfl,j,l,g.cU.bp,g.below,g.lim⟩
end enter
def y0(env:Env):List uH->Option (List EV)
 | []=>some []
 | x::l=>match bp env x,y0 env l with
  | some e,some r=>some (e::r)
  | _,_=>none
def uN{g w st env tmps}(h:cT g w st env tmps):∀l es,y0 env l=some es ->
  l.length=es.length/\∀(i:Nat) e v,es[i]?=some e->(l.map (Act.eval ⟨tmps,[]⟩))[i]?=some v->aY g w st e v
 | [],es,hx=>by simp[y0]at hx;simp_all
 | x::l,es,hx=>by
  unfold y0 at hx;split at hx
  .rename_i e r h1 h2;simp only[Option.some.injEq]at hx;subst hx;obtain⟨k,k2⟩:=uN h l r h2;refine⟨by simp[k],λi e' v H hv=>?_⟩;cases i with
   | zero =>
    simp at H hv;subst H;subst hv;exact aq h h1
   | succ i=>grind
  grind
def toD:EV->Option D
 | .d x=>some x
 | .dA sz rows _=>some (.sl sz rows)
 | _=>none
def toD_le{e x}(h:toD e=some x):eB e (.d x):=by
 cases e<;>simp[toD]at h
 .subst h;exact .aW _
 .subst h;exact .dA _ _ _
def MN:List EV->Option (List D)
 | []=>some []
 | e::l=>match toD e,MN l with
  | some x,some r=>some (x::r)
  | _,_=>none
def MO:∀es ds,MN es=some ds->es.length=ds.length/\∀(i:Nat) d,ds[i]?=some d->∃e,es[i]?=some e/\eB e (.d d)
 | [],ds,h=>by simp[MN]at h;grind
 | e::l,ds,h=>by
  unfold MN at h;split at h
  .rename_i x r h1 h2;simp only[Option.some.injEq]at h;subst h;obtain⟨k,k2⟩:=MO l r h2;refine⟨by simp[k],λi d H=>?_⟩;cases i with
   | zero=>simp at H;subst H;exact⟨e,rfl,toD_le h1⟩
   | succ i=>simp_all
  .cases h
section call
variable {P:uG}{f:Ctx}{N:Nat}{S:Start}{Q:EV->St->Prop}{k:List Item}{env:Env}{st:St}{ops rest:List Oper}
 {d:Option Tmp} {ty:uE} {pos:String} {after:uD Edge}
def Enters(P:uG)(f:FuncId) := ∃fn,P.funcs[f]?=some fn/\(fn.name == "runtime.NumGoroutine")=false/\fn.body.isNone=false
def ov{f'}(h:Enters P f') args(w):(callFunc f' args).run P w=.ok (.enter f' args) w:=by
 obtain⟨fn,h1,h2,h3⟩:=h;have I:fn.name ≠ "runtime.NumGoroutine" := by simp_all
 have H:fn.body≠none:=by grind
 simp[callFunc,h1,I,H]
def De{f'}{l:LQ uH}{ts ρ}(h:Enters P f') w(H:ρ (.func f')=.func (.func f') #[] #[]){gd}:
  (execOp ρ ⟨d,.call ⟨.value (.func f'),l.toArray,ts⟩,ty,pos,after,gd⟩).run P w=.ok (.enter f' (l.map ρ).toArray) w:=by
 simp[execOp,resolve,H,Deferred.ofValue,invoke,ov h]
def Js{f'}{l:LQ uH}{ts ρ x vs}(h:Enters P f') w(H:ρ x=.func (.func f') #[] vs){gd}:
  (execOp ρ ⟨d,.call ⟨.value x,l.toArray,ts⟩,ty,pos,after,gd⟩).run P w=.ok (.enter f' ((l.map ρ).toArray++vs)) w:=by
 simp[execOp,resolve,H,Deferred.ofValue,invoke,ov h]
def zF.of{g w tmps l es ds}(he:cT g w st env tmps)(h1:y0 env l=some es)(h2:MN es=some ds):
  zF g.lim w ds (l.map (Act.eval ⟨tmps,[]⟩)).toArray:=by
 obtain⟨k,k2⟩:=uN he l es h1;obtain⟨m1,m2⟩:=MO es ds h2;refine⟨by grind,λi x v hx hv=>?_⟩;obtain⟨e,A,hle⟩:=m2 i x hx;cases hle _ _ _ _ (k2 i e v A (by simp_all))with
 | d _ _ h=>exact h
def bO.callS{f' l ts es q}(F:Enters P f')(a:eE N d=true)(h1:y0 env l=some es)
  (b:bg P f' es st q) (hk:∀x st',q x st'->bO P f N S Q ops rest k (env.put d x) st') :
  bO P f N S Q ops (⟨d,.call ⟨.value (.func f'),l.toArray,ts⟩,ty,pos,after,none⟩::rest) k env st:=by
 intro i hi g w tmps h c H hn;have m:ops.toArray[i]?=some ⟨d,.call ⟨.value (.func f'),l.toArray,ts⟩,ty,pos,after,none⟩:=by simpa using (hi 0).symm
 rw[zap,gi];refine bT.call m (by simp[Region.wanted]) (De F w rfl) ?_;obtain⟨n,k2⟩:=uN H l es h1;refine(b g w S.base _ h ⟨by simp[n],λj x v hx hv=>k2 j x v hx (by simp_all)⟩).mono ?_;rintro e w' ⟨v,r,st',g',rfl,o,p,s,R⟩;have hs:Step S.base g w st g' w' st':=R.toStep;subst hn;exact⟨v,rfl,hk r st' o (i+1) (λj=>by have:=hi (j+1);grind) g' w' _ s (c.step hs) (pq (H.mono hs.cU) a p) fX⟩
def bO.Bo{f' l ts es cs x q}(F:Enters P f')(m:eE N d=true)(hx:bp env x=some (.xl f' cs))(h1:y0 env l=some es)
  (n:bg P f' (es++cs) st q) (hk:∀x st',q x st'->bO P f N S Q ops rest k (env.put d x) st') :
  bO P f N S Q ops (⟨d,.call ⟨.value x,l.toArray,ts⟩,ty,pos,after,none⟩::rest) k env st:=by
 intro i hi g w tmps h o c hn;have p:ops.toArray[i]?=some ⟨d,.call ⟨.value x,l.toArray,ts⟩,ty,pos,after,none⟩:=by simpa using (hi 0).symm
 rw[zap,gi];have H:=aq c hx;generalize a:Act.eval ⟨tmps,[]⟩ x=val at H;cases H with
 | xl _ _ vs z A =>
 refine bT.call p (by simp[Region.wanted]) (Js F w a) ?_;obtain⟨B,k2⟩:=uN c l es h1;have b:th g w st (es++cs) ((l.map (Act.eval ⟨tmps,[]⟩)).toArray++vs):=by
  refine⟨by simp_all,λj y v hy hv=>?_⟩
  grind
 refine(n g w S.base _ h b).mono ?_;rintro e w' ⟨v,r,st',g',rfl,s,t,u,R⟩;have hs:Step S.base g w st g' w' st':=R.toStep;subst hn;exact⟨v,rfl,hk r st' s (i+1) (λj=>by have:=hi (j+1);grind) g' w' _ u (o.step hs) (pq (c.mono hs.cU) m t) fX⟩
end call
def St.set(st:St)(o:Nat)(x:jE):St:=⟨st.aB.set o x,st.ag⟩
def St.add(st:St)(x:jE):St:=⟨st.aB++[x],st.ag⟩
def St.tok(st:St)(x:ju):St:=⟨st.aB,st.ag++[x]⟩
def St.aQ(st:St)(t:Nat)(x:ju):St:=⟨st.aB,st.ag.set t x⟩
def zG{lim c w w'}(hs:w.heap.size<=w'.heap.size)(h:∀b,b<w.heap.size->lim b<=c b/\(lim b=0∨w'.heap[b]?=w.heap[b]?)):Pw lim w c w':=
 ⟨hs,λb H=>(h b H).1,λb off H d=>by
  rcases(h b H).2 with h2|h2
  .omega
  .exact World.cell?_of_block (w:=w) (a:=⟨b,off,none⟩) h2⟩
section inv
variable {g:eI}{base:Nat}{w:uC}{st:St}
def Inv.vJ(h:Inv g base w st){o}(hl:st.live o):g.ob o<w.heap.size/\base<=g.ob o:=by
 obtain⟨x,hx,d⟩:=hl;cases x with
 | row ty cs =>
  obtain⟨h1,h2,vs,h3,_⟩:=h.row o ty cs hx
  grind
 | map es =>
  obtain⟨h1,m,c,h3,_⟩:=h.map o es hx
  grind
 | raw y =>
  obtain⟨h1,_,h3⟩:=h.raw o y hx
  grind
 | gone=>simp_all
def qq{st:St}{o o' x}(H:st.live o)(h:(st.set o x).live o'):st.live o':=by
 obtain⟨y,hy,d⟩:=h;simp only[St.set,zbg]at hy;split at hy
 .simp_all
 .exact⟨y,hy,d⟩
def Inv.setBlock(h:Inv g base w st){o}(hl:st.live o){w' x}(T:g.lim (g.ob o)=0)(dE:w'.heap.size=w.heap.size)(v:∀b,b≠g.ob o->w'.heap[b]?=w.heap[b]?)
  (K:w'.os=w.os) (z:w'.tape=w.tape) (r:w'.output=w.output)
  (V:tR g w st g w' (st.set o x)->∀ty cs,x=.row ty cs->∃vs:uD uB,w'.heap[g.ob o]?=some (.cells vs ty (0,0))/\vs.size=cs.length/\∀(i:Nat) c u,cs[i]?=some c->vs[i]?=some u->aY g w' (st.set o x) c u/\u.oneCell'=true)
  (W:tR g w st g w' (st.set o x)->∀es,x=.map es->∃(f:uD MapEntry) (H:Nat),w'.heap[g.ob o]?=some (.map f H)/\f.size=es.length /\
   (∀(i:Nat) k y m,es[i]?=some (k,y)->f[i]?=some m->m.key=k/\aY g w' (st.set o x) y m.val) /\
   (∀(i:Nat) m,f[i]?=some m->m.born<H) /\
   ∀(i j:Nat) (m B),f[i]?=some m->f[j]?=some B->m.born=B.born->i=j)
  (C:∀y,x=.raw y->w'.heap[g.ob o]?=some y:=by(intro y hy;cases hy)) :
  Inv g base w' (st.set o x)/\Step base g w st g w' (st.set o x):=by
 obtain⟨X,Y⟩:=h.vJ hl;have D:Below base w w':=⟨K,z,r,by omega,λk hk=>v k (by omega)⟩;have hs:tR g w st g w' (st.set o x):=by
  refine⟨zG (by omega) (λb Z=>⟨zag _,?_⟩),λ_ _=>rfl,by simp[St.set],λt e sz n ht=>⟨n,ht,zag _,λ_=>rfl⟩,zag _,uK λ_ _ _ _ h _=>⟨h,rfl⟩⟩
  grind
 have p:o<st.aB.length:=by obtain⟨y,hy,_⟩:=hl;grind
 have A:∀o' y,o'≠o->(st.set o x).aB[o']?=some y->st.aB[o']?=some y:=by
  intro o' y l hy;simpa[St.set,zbg,zcq l] using hy
 have U:∀o' y,(st.set o x).aB[o']?=some (.raw y)->base<=g.ob o'/\g.lim (g.ob o')=0/\w'.heap[g.ob o']?=some y:=by
  intro o' y hx;by_cases d:o'=o
  .subst d;have E:x=.raw y:=by simpa[St.set,zbg,p] using hx
   simp_all
  .have hy:=A o' _ d hx;obtain⟨h1,h2,h3⟩:=h.raw o' y hy;have l:=h.ne o' o d ⟨_,hy,by simp⟩ hl;simp_all
 refine⟨⟨by rw[dE];omega,?_,?_,U,?_,?_,?_,?_,h.tS.below D,?_⟩,⟨hs,D,λ_ _=>rfl,λb _ hn=>⟨v b (λe=>hn (.inl ⟨o,hl,e.symm⟩)),rfl⟩,λb _ L=>by
  rcases L with⟨o',h1,h2⟩|h1
  .exact .inl ⟨o',qq hl h1,h2⟩
  .exact .inr h1⟩⟩
 .intro o' ty cs hx;by_cases d:o'=o
  .subst d;have E:x=.row ty cs:=by simpa[St.set,zbg,p] using hx
   simp_all
  .have hy:=A o' _ d hx;obtain⟨h1,h2,vs,h3,h4,s⟩:=h.row o' ty cs hy;have l:=h.ne o' o d ⟨_,hy,by simp⟩ hl;exact⟨h1,h2,vs,by rw[v _ l];exact h3,h4,λi c u F G=>⟨(s i c u F G).1.mono hs,(s i c u F G).2⟩⟩
 .intro o' es hx;by_cases d:o'=o
  .subst d;have E:x=.map es:=by simpa[St.set,zbg,p] using hx
   simp_all
  .have hy:=A o' _ d hx;obtain⟨h1,f,c,h3,h4,s,M⟩:=h.map o' es hy;have l:=h.ne o' o d ⟨_,hy,by simp⟩ hl;exact⟨h1,f,c,by rw[v _ l];exact h3,h4,λi k y m a b=>⟨(s i k y m a b).1,(s i k y m a b).2.mono hs⟩,M⟩
 .exact λo1 o2 l h1 h2=>h.ne o1 o2 l (qq hl h1) (qq hl h2)
 .intro t e sz n ht;obtain⟨xs,h1,h2⟩:=h.tail t e sz n ht;refine⟨xs,?_,h2⟩;obtain⟨N,k2⟩:=h1;refine⟨N,?_⟩;rcases k2 with k2|⟨I,cap,cur,J,O,P,Q⟩
  .grind
  .refine .inr ⟨I,cap,cur,J,O,?_,Q⟩;rw[v I ?_]
   .exact P
   .intro q;subst q;exact h.gh t _ o ht hl (by rw[J];rfl)
 .exact h.mo
 .exact λt x' o' ht R=>h.gh t x' o' ht (qq hl R)
 .intro t e sz n rows ht;obtain⟨xs,h1,h2,h3⟩:=h.own t e sz n rows ht;exact⟨xs,ew h1 λb S=>v b λq=>h.gh t _ o ht hl (by rw[S,q]),h2,h3.mono hs.bp⟩
def Inv.newObj(h:Inv g base w st) x(b)
  (G:∀ty cs,x=.row ty cs->∃vs:uD uB,b=.cells vs ty (0,0)/\vs.size=cs.length/\∀(i:Nat) c u,cs[i]?=some c->vs[i]?=some u->aY g w st c u/\u.oneCell'=true)
  (W:∀es,x=.map es->es=[]/\b=.map #[] 0)
  (B:∀y,x=.raw y->b=y:=by(intro y hy;cases hy)) :
  ∃g',Inv g' base (w.alloc b) (st.add x)/\Step base g w st g' (w.alloc b) (st.add x)/\g'.ob st.aB.length=w.heap.size:=by
 let g':eI:=⟨λk=>if k=w.heap.size then 0 else g.lim k,λo=>if o=st.aB.length then w.heap.size else g.ob o,g.tk⟩
 have q:Below w.heap.size w (w.alloc b):=(Below.refl _ w).alloc (zag _) b;have A:∀k,k<w.heap.size->g'.lim k=g.lim k:=λk hk=>by grind
 have z:∀o,o<st.aB.length->g'.ob o=g.ob o:=λo H=>by grind
 have r:g'.ob st.aB.length=w.heap.size:=by grind
 have hs:tR g w st g' (w.alloc b) (st.add x):=by
  refine⟨⟨by simp,λk hk=>by rw[A k hk];omega,λk off hk _=>q.cell (p:=⟨k,off,none⟩) hk⟩,z,by simp[St.add],λt e sz n ht=>⟨n,ht,zag _,λ_=>rfl⟩,zag _,uK λ_ _ _ _ h _=>⟨h,rfl⟩⟩
 have d:∀o y,o<st.aB.length->(st.add x).aB[o]?=some y->st.aB[o]?=some y:=by
  intro o y H hy;simpa[St.add,zaj H] using hy
 have s:∀o y,(st.add x).aB[o]?=some y->¬o<st.aB.length->o=st.aB.length/\y=x:=by
  intro o y hy H;have l:=(zad.1 hy).1;simp[St.add]at l;have:o=st.aB.length:=by omega
  subst this;simpa[St.add,eq_comm] using hy
 have v:∀o,o<st.aB.length->(st.add x).live o->st.live o:=λo H ⟨y,hy,F⟩=>⟨y,d o y H hy,F⟩
 have M:(w.alloc b).heap[w.heap.size]?=some b:=heap_alloc_new w b;have U:∀o y,(st.add x).aB[o]?=some (.raw y)->base<=g'.ob o/\g'.lim (g'.ob o)=0/\(w.alloc b).heap[g'.ob o]?=some y:=by
  intro o y hx;by_cases H:o<st.aB.length
  .obtain⟨h1,h2,h3⟩:=h.raw o y (d o _ H hx);have l:=(zbe.1 h3).1;rw[z o H,A _ l,q.block _ l];simp_all
  .obtain⟨rfl,f⟩:=s o _ hx H;rw[r];exact⟨h.base,by grind,by rw[M,B y f.symm]⟩
 refine⟨g',⟨⟨by have:=h.base;grind,?_,?_,U,?_,?_,?_,?_,h.tS.below (q.mono h.base),?_⟩,⟨hs,q.mono h.base,λk hk=>A k (zaz hk h.base),λk hk _=>⟨q.block k hk,A k hk⟩,λk hk J=>by
  rcases J with⟨o,h1,h2⟩|h1
  .by_cases H:o<st.aB.length
   .exact .inl ⟨o,v o H h1,by rw[←z o H];exact h2⟩
   .obtain⟨y,hy,_⟩:=h1
    grind
  .exact .inr h1⟩,r⟩⟩
 .intro o ty cs hx;by_cases H:o<st.aB.length
  .obtain⟨h1,h2,vs,h3,h4,C⟩:=h.row o ty cs (d o _ H hx);have l:=(zbe.1 h3).1;rw[z o H,A _ l,q.block _ l];exact⟨h1,h2,vs,h3,h4,λi c u D E=>⟨(C i c u D E).1.mono hs,(C i c u D E).2⟩⟩
  .obtain⟨rfl,f⟩:=s o _ hx H;obtain⟨vs,h1,h2,h3⟩:=G ty cs f.symm;rw[r];refine⟨h.base,by grind,vs,by rw[M,h1],h2,λi c u D E=>⟨(h3 i c u D E).1.mono hs,(h3 i c u D E).2⟩⟩
 .intro o es hx;by_cases H:o<st.aB.length
  .obtain⟨h1,K,c,h3,h4,C,L⟩:=h.map o es (d o _ H hx);have l:=(zbe.1 h3).1;rw[z o H,q.block _ l];exact⟨h1,K,c,h3,h4,λi k y m a b=>⟨(C i k y m a b).1,(C i k y m a b).2.mono hs⟩,L⟩
  .obtain⟨rfl,f⟩:=s o _ hx H;obtain⟨rfl,h2⟩:=W es f.symm;rw[r];exact⟨h.base,#[],0,by rw[M,h2],rfl,λi k y m a _=>by simp at a,λi m a=>by simp at a,λi j m N a=>by simp at a⟩
 .intro o1 o2 F h1 h2;by_cases I:o1<st.aB.length<;>by_cases V:o2<st.aB.length
  .rw[z o1 I,z o2 V];exact h.ne o1 o2 F (v o1 I h1) (v o2 V h2)
  .obtain⟨y,hy,_⟩:=h2;obtain⟨rfl,_⟩:=s o2 _ hy V;rw[z o1 I,r];have:=(h.vJ (v o1 I h1)).1;omega
  .obtain⟨y,hy,_⟩:=h1;obtain⟨rfl,_⟩:=s o1 _ hy I;rw[z o2 V,r];have:=(h.vJ (v o2 V h2)).1;omega
  .obtain⟨y,hy,_⟩:=h1;obtain⟨O,P,_⟩:=h2
   grind
 .intro t e sz n ht;obtain⟨xs,h1,h2⟩:=h.tail t e sz n ht;exact⟨xs,h1.alloc b,λk hk=>by rw[A k (h1.lt k hk).2];grind⟩
 .exact h.mo
 .intro t x' o ht hl;by_cases H:o<st.aB.length
  .rw[z o H];exact h.gh t x' o ht (v o H hl)
  .obtain⟨y,hy,_⟩:=hl;obtain⟨rfl,_⟩:=s o _ hy H;rw[r];intro hk;have:=(h.vF ht hk).2;omega
 .intro t e sz n rows ht;obtain⟨xs,h1,h2,h3⟩:=h.own t e sz n rows ht;exact⟨xs,h1.alloc b,λk hk=>by rw[A k (h1.lt k hk).2];grind,h3.mono hs.bp⟩
end inv
def mI(P:uG)(s:uE)(f:Nat):Option Nat:=
 match P.underlying s with
 | some (.struct H)=>match H[f]? with
  | some h=>match P.info? h.type with
   | some i=>if i.size=0 then none else some h.offset
   | none=>none
  | none=>none
 | _=>none
def ox{P s f off}(h:mI P s f=some off) a(w):(Instr.fieldAt s (.pointer (some a)) f).run P w=.ok (.pointer (some (a.add off))) w:=by
 unfold mI at h;split at h
 .rename_i c H;split at h
  .rename_i d b;split at h
   .rename_i i hi;split at h
    .cases h
    .rename_i dE;simp only[Option.some.injEq]at h;subst h;simp[Instr.fieldAt,run_underlying H,b,Instr.sureAddr,fieldPlace,sizeOf,typeInfo,hi,dE]
   .cases h
  .cases h
 .cases h
def Uj:List EV->Option (List D)
 | []=>some []
 | .d x::l=>match Uj l with
  | some r=>some (x::r)
  | none=>none
 | _::_=>none
def MQ:∀{l ds},Uj l=some ds->l=ds.map EV.d
 | [],ds,h=>by simp[Uj]at h;grind
 | .d x::l,ds,h=>by
  unfold Uj at h;split at h
  .rename_i r H;simp only[Option.some.injEq]at h;subst h;rw[MQ H];rfl
  .cases h
 | .ref _ _::l,ds,h=>by cases h
 | .Da _ _ _ _::l,ds,h=>by cases h
 | .dA _ _ _::l,ds,h=>by cases h
 | .mp _::l,ds,h=>by cases h
 | .xl _ _::l,ds,h=>by cases h
 | .agg _::l,ds,h=>by cases h
 | .dp _::l,ds,h=>by cases h
 | .gd _ _::l,ds,h=>by cases h
def ED:EV->Bool->Option Bool
 | .d (.ex (.bool b)),true=>some b
 | .d (.ex (.bool b)),false=>some !b
 | .gd c (.d (.ex (.bool b))),true=>some (c && b)
 | .gd c (.d (.ex (.bool b))),false=>some (c && !b)
 | _,_=>none
def boolOf:uB->Option Bool
 | .bool c=>some c
 | _=>none
def rO{g w st e want b v}(h:ED e want=some b)(hv:aY g w st e v):(boolOf v==some want)=b:=by
 unfold ED at h;split at h
 .cases h;rw[hv.aO];cases b<;>rfl
 .rename_i c;cases h;rw[hv.aO];cases c<;>rfl
 .rename_i c H;cases h;cases hv with
  | gd _ _ _ h0 h1 =>
   cases c with
   | false=>rw[h0 rfl];rfl
   | true=>rw[(h1 rfl).aO];cases H<;>rfl
 .rename_i c H;cases h;cases hv with
  | gd _ _ _ h0 h1 =>
   cases c with
   | false=>rw[h0 rfl];rfl
   | true=>rw[(h1 rfl).aO];cases H<;>rfl
 .cases h
def Bp(b:Bool)(env:Env):Env->Prop
 | []=>True
 | (i,y)::t=>(lookup i env=some y∨lookup i env=some (.gd b y)∨∃a z,y=.gd a z/\lookup i env=some (.gd (b && a) z))/\Bp b env t
def Bp.get{b env}:∀{env'},Bp b env env'->∀i y,lookup i env'=some y->lookup i env=some y∨lookup i env=some (.gd b y)∨∃a z,y=.gd a z/\lookup i env=some (.gd (b && a) z)
 | [],_,i,y,h=>by simp[lookup]at h
 | (j,z)::t,⟨c,ht⟩,i,y,h=>by
  unfold lookup at h;cases H:Nat.beq i j with
  | true =>
   rw[H]at h;simp_all
  | false =>
   rw[H]at h;exact ht.get i y h
def cT.gd{g w st env env' tmps b}(h:cT g w st env tmps)(H:Bp b env env')(c:b=true):cT g w st env' tmps:=by
 intro i y hy;rcases H.get i y hy with h1|h1|⟨a,z,rfl,h1⟩
 .exact h i y h1
 .obtain⟨v,h2,h3⟩:=h i _ h1;cases h3 with
  | gd _ _ _ _ h4=>simp_all
 .obtain⟨v,h2,h3⟩:=h i _ h1;rw[c,zei]at h3;simp_all
section guard
variable {P:uG}{f:Ctx}{N:Nat}{S:Start}{Q:EV->St->Prop}{k:List Item}{env:Env}{st:St}{ops rest:List Oper}
def bO.guard{d op ty pos after j want b}{t:Tmp}{c x env'}(r:ops[j]?.bind (·.dst)=some t)(hl:lookup t env=some c)(n:ED c want=some b)
  (o:Bp b env env') (e:eE N (some d)=true) (h:b=true->aG P env' st ⟨some d,op,ty,pos,after,some (j,want)⟩ x) (hk:bO P f N S Q ops rest k ((d,.gd b x)::env) st) :
  bO P f N S Q ops (⟨some d,op,ty,pos,after,some (j,want)⟩::rest) k env st:=by
 intro i hi g w tmps H l a hn;have m:ops.toArray[i]?=some ⟨some d,op,ty,pos,after,some (j,want)⟩:=by simpa using (hi 0).symm
 obtain⟨v,hv,p⟩:=a t c hl;have hw:Region.wanted ⟨some d,op,ty,pos,after,some (j,want)⟩ (yielded ops.toArray tmps)=b:=by
  rw[←rO n p];have q:((ops.toArray)[j]?).bind (·.dst)=some t:=by simp_all
  simp only[Region.wanted,yielded,q,zac,hv];cases v<;>rfl
 rw[zap,gi];subst hn;have hi':∀j:Nat,rest[j]?=ops[i+1+j]?:=λj=>by have:=hi (j+1);grind
 cases b with
 | false=>exact bT.rW m hw (hk (i+1) hi' g w _ H l (pq (d:=some d) a e (.gd _ _ _ (λ_=>rfl) (λh=>by cases h))) fX)
 | true =>
  obtain⟨u,h1,h2⟩:=h rfl g S.base w tmps H (a.gd o rfl);exact bT.value m hw (h2 w (.refl _ _)) (hk (i+1) hi' g w _ H l (pq (d:=some d) a e (.gd _ _ _ (λh=>by cases h) (λ_=>h1))) fX)
def bO.v{d op ty pos after x st'}(h:uL P S.base env st ⟨d,op,ty,pos,after,none⟩ x st')(H:eE N d=true)(hk:bO P f N S Q ops rest k (env.put d x) st'):
  bO P f N S Q ops (⟨d,op,ty,pos,after,none⟩::rest) k env st:=.op rfl H h hk
def bO.u{d op ty pos after st'}(h:ID P S.base env st ⟨d,op,ty,pos,after,none⟩ st')(H:eE N d=true)(hk:bO P f N S Q ops rest k (env.put d (.d .any)) st'):
  bO P f N S Q ops (⟨d,op,ty,pos,after,none⟩::rest) k env st:=.opU rfl H h hk
end guard
section q
variable {P:uG}{env:Env}{st:St}{d:Option Tmp}{ty:uE}{pos:String}{after:uD Edge}{gd:Option (Nat×Bool)}{t t2:uE}{x y:uH}
def ro_drop{lim w cs b off n}(h:cq lim w (.ro cs) (.pointer (some ⟨b,off,none⟩))):cq lim w (.ro (cs.drop n)) (.pointer (some (Addr.add ⟨b,off,none⟩ n))):=by
 rw[Addr.add_lit];cases h with
 | ro _ _ _ hx H =>
  refine .ro _ b (off+n) ?_ ?_
  .intro k hk;simp only[zbc]at hk;have:=hx (n+k) (by omega);rw[zcw];exact this
  grind
def RQ{lim w cs v}(h:cq lim w (.ro cs) v):∃b off,v=.pointer (some ⟨b,off,none⟩):=by
 cases h with|ro _ b off=>simp_all
def Uk{s f off cs}(H:mI P s f=some off)(hx:bp env x=some (.d (.ro cs))):aG P env st ⟨d,.fieldAddr s x f,ty,pos,after,gd⟩ (.d (.ro (cs.drop off))):=λg base w tmps hi a=>by
 cases aq a hx with
 | d _ _ h =>
  obtain⟨b,o,hv⟩:=RQ h;rw[hv]at h;exact⟨_,.d _ _ (ro_drop h),λw' _=>by simp[execOp,hv,ox H]⟩
def bn{s f off o H}(a:mI P s f=some off)(hx:bp env x=some (.ref o H)):aG P env st ⟨d,.fieldAddr s x f,ty,pos,after,gd⟩ (.ref o (H+off)):=λg base w tmps hi b=>by
 have h:=aq b hx;generalize hv:Act.eval ⟨tmps,[]⟩ x=v at h;cases h with
 | ref _ _ c=>exact⟨.pointer (some ⟨g.ob o,H+off,none⟩),.ref _ _ c,λw' _=>by simp[execOp,hv,ox a,Addr.add_lit]⟩
def kb{w b off n}{vs:LQ uB}(hl:vs.length=n)(h:∀j u,vs[j]?=some u->w.cell? ⟨b,off+j,none⟩=some u):(loadCells ⟨b,off,none⟩ n).run P w=.ok vs.toArray w:=by
 subst hl;exact run_loadCells_list w _ vs λj u H=>by rw[Addr.add_lit];simp_all
def ro_vals{lim w cs b off}(h:cq lim w (.ro cs) (.pointer (some ⟨b,off,none⟩))) n(hn:n<=cs.length):
  ∃vs:LQ uB,vs.length=n/\∀(j) u,vs[j]?=some u->w.cell? ⟨b,off+j,none⟩=some u/\u.oneCell'=true/\∀c,cs[j]?=some c->cq lim w c u:=by
 cases h with
 | ro _ _ _ hx a =>
  refine⟨(List.range n).map λj=>(w.cell? ⟨b,off+j,none⟩).getD undef,by simp,λj u H=>?_⟩;rw[zau]at H;by_cases d:j<n
  .obtain⟨hl,e,A,h1⟩:=hx j (by omega)
   grind
  simp_all
def RR{cs n}(h1:(P.underlying t).map qH=some false)(hs:(P.info? t).map (·.size)=some n)(hn:n<=cs.length)(hx:bp env x=some (.d (.ro cs))):
  aG P env st ⟨d,.load t x,ty,pos,after,gd⟩ (.d (.agg (cs.take n))):=λg base w tmps a f=>by
 cases aq f hx with
 | d _ _ h =>
  obtain⟨b,off,hv⟩:=RQ h;rw[hv]at h;obtain⟨vs,hl,e⟩:=ro_vals h n hn;refine⟨.agg vs.toArray,.d _ _ (.agg _ _ (by simp_all) (λi u H=>(e i u (by simp_all)).2.1) λi c u k H=>?_),λw' l=>?_⟩
  .rw[zah]at k
   grind
  .obtain⟨inf,m,dE⟩:∃inf,P.info? t=some inf/\inf.size=n:=by
    simp_all
   have F:=kb (P:=P) (w:=w') (b:=b) (off:=off) hl (λj u H=>by
    have h3:=(e j u H).1;exact(l.cell (World.block_lt_of_cell? w _ h3)).trans h3)
   simp[execOp,hv,Instr.loadAt,Instr.sureAddr,loadVar,yH h1,sizeOf,typeInfo,m,dE,F]
def jH{o off T cs c}(h1:(P.underlying t).map qH=some true)(hx:bp env x=some (.ref o off))(i:st.aB[o]?=some (.row T cs))(j:cs[off]?=some c):
  aG P env st ⟨d,.load t x,ty,pos,after,gd⟩ c:=λg base w tmps a k=>by
 have h:=aq k hx;generalize hv:Act.eval ⟨tmps,[]⟩ x=v at h;cases h with
 | ref _ _ n =>
  obtain⟨_,_,vs,l,dE,M⟩:=a.row o T cs i;have b:off<vs.size:=by rw[dE];grind
  have e:vs[off]?=some vs[off]:=zbl b;have f:w.cell? ⟨g.ob o,off,none⟩=some vs[off]:=by rw[cell_of_row w _ off vs T (0,0) l];exact e
  refine⟨vs[off],(M off c _ j e).1,λw' m=>?_⟩;have H:w'.cell? ⟨g.ob o,off,none⟩=some vs[off]:=(m.cell (World.block_lt_of_cell? w _ f)).trans f;simp[execOp,hv,Instr.loadAt,Instr.sureAddr,loadVar,uM h1,H]
def MS{g:eI}{w:uC}{b n off T}{cs:LQ EV}{vs}(H:w.heap[b]?=some (.cells vs T (0,0)))(dE:vs.size=cs.length)(hn:off+n<=cs.length):
  ((vs.toList.drop off).take n).length=n/\∀j u,((vs.toList.drop off).take n)[j]?=some u->w.cell? ⟨b,off+j,none⟩=some u/\vs[off+j]?=some u:=by
 refine⟨by grind,λj u h=>?_⟩;rw[zah]at h;split at h
 .rw[zbd]at h;have:vs[off+j]?=some u:=by simp_all
  exact⟨by rw[cell_of_row w _ _ vs T (0,0) H];exact this,this⟩
 grind
def eJ{o off n T cs ds}(h1:(P.underlying t).map qH=some false)(hs:(P.info? t).map (·.size)=some n)(hx:bp env x=some (.ref o off))(l:st.aB[o]?=some (.row T cs))
  (hn:off+n<=cs.length) (m:Uj ((cs.drop off).take n)=some ds):aG P env st ⟨d,.load t x,ty,pos,after,gd⟩ (.d (.agg ds)):=λg base w tmps H p=>by
 have h:=aq p hx;generalize hv:Act.eval ⟨tmps,[]⟩ x=v at h;cases h with
 | ref _ _ z =>
  obtain⟨_,_,vs,q,dE,M⟩:=H.row o T cs l;obtain⟨hl,f⟩:=MS (g:=g) (w:=w) (n:=n) (off:=off) q dE hn;have a:=MQ m;refine⟨.agg ((vs.toList.drop off).take n).toArray,.d _ _ (.agg _ _ ?_ ?_ ?_),λw' r=>?_⟩
  .have:=zaq List.length a
   grind
  .grind
  .intro i c u s k;have A:=f i u (by simp_all);have e:((cs.drop off).take n)[i]?=some (.d c):=by rw[a,zau,s];rfl
   rw[zah]at e;split at e
   .rw[zbd]at e;cases(M (off+i) _ u e A.2).1 with|d _ _ h=>exact h
   grind
  .obtain⟨inf,y,K⟩:∃inf,P.info? t=some inf/\inf.size=n:=by
    simp_all
   have F:=kb (P:=P) (w:=w') (b:=g.ob o) (off:=off) hl (λj u k=>by
    have h3:=(f j u k).1;exact(r.cell (World.block_lt_of_cell? w _ h3)).trans h3)
   simp[execOp,hv,Instr.loadAt,Instr.sureAddr,loadVar,yH h1,sizeOf,typeInfo,y,K,F]
def yI{cs i c}(hx:bp env x=some (.d (.dp cs)))(b:cs[i]?=some c):aG P env st ⟨d,.extract x i,ty,pos,after,gd⟩ (.d c):=λg base w tmps H e=>by
 cases aq e hx with
 | d _ _ h =>
  generalize hv:Act.eval ⟨tmps,[]⟩ x=v at h;cases h with
  | dp _ vs hs h =>
   have hi:i<vs.size:=by rw[hs];grind
   have a:vs[i]?=some vs[i]:=zbl hi;exact⟨vs[i],.d _ _ (h i c _ b a),λw' _=>by simp[execOp,hv,Instr.extract,a]⟩
def PK{cs i c}(hx:bp env x=some (.dp cs))(b:cs[i]?=some c):aG P env st ⟨d,.extract x i,ty,pos,after,gd⟩ c:=λg base w tmps H e=>by
 have h:=aq e hx;generalize hv:Act.eval ⟨tmps,[]⟩ x=v at h;cases h with
 | dp _ vs hs h =>
  have hi:i<vs.size:=by rw[hs];grind
  have a:vs[i]?=some vs[i]:=zbl hi;exact⟨vs[i],h i c _ b a,λw' _=>by simp[execOp,hv,Instr.extract,a]⟩
def RS{s f off a H cs c}(hu:P.underlying s=some (.struct a))(e:a[f]?=some H)(h1:(P.underlying H.type).map qH=some true)(i:H.offset=off)
  (hx:bp env x=some (.d (.agg cs))) (j:cs[off]?=some c):aG P env st ⟨d,.field s x f,ty,pos,after,gd⟩ (.d c):=λg base w tmps b k=>by
 cases aq k hx with
 | d _ _ h =>
  generalize hv:Act.eval ⟨tmps,[]⟩ x=v at h;cases h with
  | agg _ vs hs D h =>
   have hi:off<vs.size:=by rw[hs];grind
   have A:vs[off]?=some vs[off]:=zbl hi;exact⟨vs[off],.d _ _ (h off c _ j A),λw' _=>by simp[execOp,hv,Instr.field,run_underlying hu,e,asAgg,part,uM h1,i,A]⟩
end q
def ek:EV->Option (List EV)
 | .d (.ex v)=>if v.oneCell' then some [.d (.ex v)]else none
 | .d (.agg cs)=>some (cs.map EV.d)
 | .d (.sl sz rows)=>some [.d (.sl sz rows)]
 | .d (.ro cs)=>some [.d (.ro cs)]
 | .d (.e0 sz)=>some [.d (.e0 sz)]
 | .ref o off=>some [.ref o off]
 | .Da o off n c=>some [.Da o off n c]
 | .dA sz rows t=>some [.dA sz rows t]
 | .mp o=>some [.mp o]
 | .xl f cs=>some [.xl f cs]
 | .vc t k=>some [.vc t k]
 | .vp t k i off=>some [.vp t k i off]
 | .vw t k lo n=>some [.vw t k lo n]
 | .agg cs=>some cs
 | _=>none
def cells_one{v:uB}(h:v.oneCell'=true):v.cells=#[v]:=by cases v<;>first|rfl|cases h
def nD{g w st e cs v}(h:ek e=some cs)(hv:aY g w st e v):
  v.cells.size=cs.length/\∀(i:Nat) c u,cs[i]?=some c->v.cells[i]?=some u->aY g w st c u/\u.oneCell'=true:=by
 have one:∀(a:v.oneCell'=true) (s:cs=[e]),v.cells.size=cs.length/\∀(i:Nat) c u,cs[i]?=some c->v.cells[i]?=some u->aY g w st c u/\u.oneCell'=true:=by
  intro a s;subst s;rw[cells_one a]
  grind
 cases hv with
 | d x _ k =>
  cases k with
  | ex =>
   simp only[ek]at h
   grind
  | agg ds vs hs h1 l =>
   simp only[ek,Option.some.injEq]at h;subst h;refine⟨by simpa[Value.cells] using hs,λi c u H f=>?_⟩;rw[zau]at H;cases hx:ds[i]? with
   | none=>rw[hx]at H;cases H
   | some y =>
    rw[hx]at H;simp only[Option.map_some,Option.some.injEq]at H;subst H;exact⟨.d _ _ (l i y u hx (by simpa[Value.cells] using f)),h1 i u (by simpa[Value.cells] using f)⟩
  | dp=>cases h
  | nil=>simp only[ek,Option.some.injEq]at h;exact one rfl h.symm
  | sl=>simp only[ek,Option.some.injEq]at h;exact one rfl h.symm
  | ro=>simp only[ek,Option.some.injEq]at h;exact one rfl h.symm
  | e0=>simp only[ek,Option.some.injEq]at h;exact one rfl h.symm
  | any=>cases h
 | ref=>simp only[ek,Option.some.injEq]at h;exact one rfl h.symm
 | Da=>simp only[ek,Option.some.injEq]at h;exact one rfl h.symm
 | dA _ _ _ _ _ _ k =>
  simp only[ek,Option.some.injEq]at h;obtain⟨A,c,hv⟩:=yF k;exact one (by rw[hv];rfl) h.symm
 | mp=>simp only[ek,Option.some.injEq]at h;exact one rfl h.symm
 | xl=>simp only[ek,Option.some.injEq]at h;exact one rfl h.symm
 | agg ds vs hs h1 l =>
  simp only[ek,Option.some.injEq]at h;subst h;exact⟨by simpa[Value.cells] using hs,λi c u H f=>⟨l i c u H (by simpa[Value.cells] using f),h1 i u (by simpa[Value.cells] using f)⟩⟩
 | dp=>cases h
 | gd=>cases h
 | vc _ _ _ _ j=>simp only[ek,Option.some.injEq]at h;obtain⟨A,n,c,rfl⟩:=j;exact one rfl h.symm
 | vp _ _ _ _ _ _ j=>simp only[ek,Option.some.injEq]at h;obtain⟨b,o,rfl⟩:=j;exact one rfl h.symm
 | vw _ _ _ _ _ _ j=>simp only[ek,Option.some.injEq]at h;obtain⟨A,c,rfl⟩:=j;exact one rfl h.symm
section v
variable {P:uG}{base:Nat}{env:Env}{st:St}{d:Option Tmp}{ty:uE}{pos:String}{after:uD Edge}{gd:Option (Nat×Bool)}{t t2:uE}{x y:uH}
def v_box{e cs}(hx:bp env x=some e)(H:ek e=some cs):uL P base env st ⟨d,.box t x,ty,pos,after,gd⟩ (.ref st.aB.length 0) (st.add (.row t cs)):=by
 intro g w tmps h a;obtain⟨h1,h2⟩:=nD H (aq a hx);obtain⟨g',hi,hs,z⟩:=h.newObj (.row t cs) (.cells (Act.eval ⟨tmps,[]⟩ x).cells t) (λK v e=>by grind) (λes e=>by cases e);refine⟨.pointer (some ⟨w.heap.size,0,none⟩),g',_,?_,?_,hi,hs⟩
 .simp[execOp,Instr.box,newVar,newRow]
 .rw[←z];exact .ref _ _ (by simp[St.add])
def nf{z cs}(H:(P.info? t).bind (·.zero)=some z)(b:ek (.d (cv z))=some cs):uL P base env st ⟨d,.alloc t,ty,pos,after,gd⟩ (.ref st.aB.length 0) (st.add (.row t cs)):=by
 intro g w tmps h i;obtain⟨h1,h2⟩:=nD (g:=g) (w:=w) (st:=st) b (.d _ _ (nC _ _ z));obtain⟨g',hi,hs,c⟩:=h.newObj (.row t cs) (.cells z.cells t) (λK v e=>by grind) (λes e=>by cases e);obtain⟨inf,j,f⟩:∃inf,P.info? t=some inf/\inf.zero=some z:=by
  cases a:P.info? t with
  | none=>rw[a]at H;cases H
  | some inf=>rw[a]at H;simp_all
 refine⟨.pointer (some ⟨w.heap.size,0,none⟩),g',_,?_,?_,hi,hs⟩
 .simp[execOp,Instr.alloc,zeroValue,typeInfo,j,f,newVar,newRow]
 .rw[←c];exact .ref _ _ (by simp[St.add])
def putCells(cs:List EV)(off:Nat)(new:List EV):= cs.take off++new++cs.drop (off+new.length)
def tj{o off T cs new e}(hx:bp env x=some (.ref o off))(hy:bp env y=some e)(l:st.aB[o]?=some (.row T cs))(q:ek e=some new)(hn:off+new.length<=cs.length)
  (hs:(P.info? t).map (·.size)=some new.length):ID P base env st ⟨d,.store t x y,ty,pos,after,gd⟩ (st.set o (.row T (putCells cs off new))):=by
 intro g w tmps f n;have h:=aq n hx;generalize hv:Act.eval ⟨tmps,[]⟩ x=v at h;obtain⟨k,k2⟩:=nD q (aq n hy);generalize r:Act.eval ⟨tmps,[]⟩ y=u at k k2;cases h with
 | ref _ _ E =>
  obtain⟨F,hl,vs,I,dE,M⟩:=f.row o T cs l;have hlen:u.cells.toList.length=new.length:=by omega
  have p:=run_storeCells_at P (g.ob o) off T u.cells.toList 0 vs w I (by omega) (λa ha=>by
   obtain⟨i,hi⟩:=zcr.1 ha;have hi':u.cells[i]?=some a:=by simp_all
   have G:i<new.length:=by rw[←k];grind
   grind)
  simp only[zct]at p;obtain⟨inf,s,K⟩:∃inf,P.info? t=some inf/\inf.size=new.length:=by
   simp_all
  obtain⟨z,A⟩:=f.setBlock (o:=o) (x:=.row T (putCells cs off new)) (w':=w.setRow (g.ob o) (vs.toList.take off++u.cells.toList++vs.toList.drop (off+u.cells.toList.length)).toArray)
   ⟨_,l,by simp⟩ hl (by simp) (λb B=>setRow_other w _ b _ B) rfl rfl rfl
   (λj J L m=>by
    cases m;refine⟨_,setRow_heap w _ vs _ T (0,0) I,by simp[putCells,dE,k],λi c a C ha=>?_⟩;have H:aY g w st c a/\a.oneCell'=true:=by
     simp only[putCells]at C;have D:(vs.toList.take off++u.cells.toList++vs.toList.drop (off+u.cells.toList.length))[i]?=some a:=by simp_all
     grind
    exact⟨H.1.mono j,H.2⟩) (λ_ es m=>by cases m)
  refine⟨g,_,?_,z,A⟩;simp[execOp,hv,r,Instr.storeAt,Instr.sureAddr,storeVar,sizeOf,typeInfo,s,K,k,p]
end v
def Good(g:eI)(w:uC)(st:St)(x:EV)(c:Nat->Nat)(w':uC)(v:uB):=
 aY { g with lim:=c } w' st x v/\Below w.heap.size w w'/\∀b,b<w.heap.size->c b=g.lim b
def zd(P:uG)(env:Env)(st:St)(o:Oper)(x:EV):=
 ∀g base w tmps,Inv g base w st->cT g w st env tmps ->
  (∃v c w',(execOp (Act.eval ⟨tmps,[]⟩) o).run P w=.ok (.value v) w'/\Good g w st x c w' v) ∨
  ∃f' args,(execOp (Act.eval ⟨tmps,[]⟩) o).run P w=.ok (.enter f' args) w/\Calls P f' args w λe w'=>∃v c,e=.returned v/\Good g w st x c w' v
section g
variable {P:uG}{f:Ctx}{N:Nat}{S:Start}{Q:EV->St->Prop}{k:List Item}{env:Env}{st:St}{ops rest:List Oper}
 {d:Option Tmp} {op:Op} {ty:uE} {pos:String} {after:uD Edge} {gd:Option (Nat×Bool)} {t t2 e:uE} {x y:uH}
theorem aG.g{o r}(h:aG P env st o r):zd P env st o r:=λg base w tmps hi H =>
 let⟨v,h1,h2⟩:=h g base w tmps hi H
 .inl ⟨v,g.lim,w,h2 w (.refl _ _),h1,.refl _ _,λ_ _=>rfl⟩
def Dh{f' l ts es ds r}(F:Enters P f')(h1:y0 env l=some es)(h2:MN es=some ds)(h:aR P f' ds (·=r)):
  zd P env st ⟨d,.call ⟨.value (.func f'),l.toArray,ts⟩,ty,pos,after,gd⟩ (.d r):=λg base w tmps hi H=>by
 refine .inr ⟨f',_,De F w rfl,(h g.lim w _ (hi.tS.mono hi.base) (.of H h1 h2)).mono ?_⟩;rintro e w' ⟨v,f,c,rfl,rfl,a,J,b,hl⟩;exact⟨v,c,rfl,.d _ _ a,b,hl⟩
theorem bO.g{x}(h:zd P env st ⟨d,op,ty,pos,after,none⟩ x)(n:eE N d=true)(hk:bO P f N S Q ops rest k (env.put d x) st):
  bO P f N S Q ops (⟨d,op,ty,pos,after,none⟩::rest) k env st:=by
 intro i hi g w tmps H o a hn;have p:ops.toArray[i]?=some ⟨d,op,ty,pos,after,none⟩:=by simpa using (hi 0).symm
 have hi':∀j:Nat,rest[j]?=ops[i+1+j]?:=λj=>by have:=hi (j+1);grind
 rw[zap,gi];subst hn;rcases h g S.base w tmps H a with⟨v,c,w',b,hx,l,hl⟩|⟨f',args,b,q⟩
 .obtain⟨m,hs⟩:=H.grow (g':={ g with lim:=c }) l hl rfl rfl;exact bT.value p (by simp[Region.wanted]) b (hk (i+1) hi' _ w' _ m (o.step hs) (pq (a.mono hs.cU) n hx) fX)
 .refine bT.call p (by simp[Region.wanted]) b (q.mono ?_);rintro e w' ⟨v,c,rfl,hx,l,hl⟩;obtain⟨m,hs⟩:=H.grow (g':={ g with lim:=c }) l hl rfl rfl;exact⟨v,rfl,hk (i+1) hi' _ w' _ m (o.step hs) (pq (a.mono hs.cU) n hx) fX⟩
def bO.jI{d j want b}{t:Tmp}{c x env'}(z:ops[j]?.bind (·.dst)=some t)(hl:lookup t env=some c)(m:ED c want=some b)
  (u:Bp b env env') (n:eE N (some d)=true) (h:b=true->zd P env' st ⟨some d,op,ty,pos,after,some (j,want)⟩ x) (hk:bO P f N S Q ops rest k ((d,.gd b x)::env) st) :
  bO P f N S Q ops (⟨some d,op,ty,pos,after,some (j,want)⟩::rest) k env st:=by
 intro i hi g w tmps H o a hn;have p:ops.toArray[i]?=some ⟨some d,op,ty,pos,after,some (j,want)⟩:=by simpa using (hi 0).symm
 obtain⟨v,hv,l⟩:=a t c hl;have hw:Region.wanted ⟨some d,op,ty,pos,after,some (j,want)⟩ (yielded ops.toArray tmps)=b:=by
  rw[←rO m l];have y:((ops.toArray)[j]?).bind (·.dst)=some t:=by simp_all
  simp only[Region.wanted,yielded,y,zac,hv];cases v<;>rfl
 rw[zap,gi];subst hn;have hi':∀j:Nat,rest[j]?=ops[i+1+j]?:=λj=>by have:=hi (j+1);grind
 cases b with
 | false=>exact bT.rW p hw (hk (i+1) hi' g w _ H o (pq (d:=some d) a n (.gd _ _ _ (λ_=>rfl) (λh=>by cases h))) fX)
 | true =>
  rcases h rfl g S.base w tmps H (a.gd u rfl)with⟨v,q,w',l,hx,r,hl⟩|⟨f',args,l,m⟩
  .obtain⟨s,hs⟩:=H.grow (g':={ g with lim:=q }) r hl rfl rfl;exact bT.value p hw l (hk (i+1) hi' _ w' _ s (o.step hs) (pq (d:=some d) (a.mono hs.cU) n (.gd _ _ _ (λh=>by cases h) (λ_=>hx))) fX)
  .refine bT.call p hw l (m.mono ?_);rintro e w' ⟨v,q,rfl,hx,r,hl⟩;obtain⟨s,hs⟩:=H.grow (g':={ g with lim:=q }) r hl rfl rfl;exact⟨v,rfl,hk (i+1) hi' _ w' _ s (o.step hs) (pq (d:=some d) (a.mono hs.cU) n (.gd _ _ _ (λh=>by cases h) (λ_=>hx))) fX⟩
def ig{sz}:∀{rows:LQ (LQ D)} (h:∀row∈rows,row.length=sz) {i j row c},rows[i]?=some row->row[j]?=some c->rows.flatten[i*sz+j]?=some c
 | [],_,i,j,row,c,H,_=>by simp at H
 | r::rows,h,0,j,row,c,H,a=>by
  grind
 | r::rows,h,i+1,j,row,c,H,a=>by
  have hl:=h r (by simp);rw[zfo,zcu,zan (by omega)];have:=ig (rows:=rows) (λr H=>h r (by simp[H])) (by simpa using H) a;rw[←this]
  grind
def eK{sz}:∀{rows:LQ (LQ D)},(∀row∈rows,row.length=sz)->rows.flatten.length=rows.length*sz
 | [],_=>by simp
 | r::rows,h=>by
  have h1:=h r (by simp);have h2:=eK (rows:=rows) (λr H=>h r (by simp[H]));rw[zfo,zar,h1,h2,zap,zcu];omega
def RT{g:eI}{w w0:uC}{sz cap rows vs e}(hw:w0.heap=w.heap)(J:w0.os=w.os)(f:w0.tape=w.tape)(H:w0.output=w.output)
  (l:∀row∈rows,row.length=sz) (r:rows.length<=cap) (hn:rows.length*sz<=vs.size)
  (q:∀(i:Nat) c u,rows.flatten[i]?=some c->vs[i]?=some u->cq g.lim w c u/\u.oneCell'=true) :
  ∃h,cq h (w0.alloc (.cells vs e)) (.sl sz rows) (.slice (some ⟨w.heap.size,0,none⟩) rows.length cap)/\Below w.heap.size w (w0.alloc (.cells vs e))/\∀b,b<w.heap.size->h b=g.lim b:=by
 have d:Below w.heap.size w (w0.alloc (.cells vs e)):=by
  refine⟨J,f,H,by simp[hw],λk hk=>?_⟩;rw[Below.heap_alloc _ _ _ (by rw[hw];exact hk),hw]
 let h:Nat->Nat:=λb=>if b=w.heap.size then rows.length*sz else g.lim b
 have z:∀b,b<w.heap.size->h b=g.lim b:=λb d=>by grind
 have M:(w0.alloc (.cells vs e)).heap[w.heap.size]?=some (.cells vs e):=by rw[←hw];exact heap_alloc_new w0 _
 have s:Pw g.lim w h (w0.alloc (.cells vs e)):=⟨d.size,λb m=>by rw[z b m];omega,λb off m _=>d.cell (p:=⟨b,off,none⟩) m⟩
 have D:∀i,(w0.alloc (.cells vs e)).cell? ⟨w.heap.size,i,none⟩=vs[i]?:=λi=>cell_of_row _ _ i vs e (0,0) M
 have A:=eK l;refine⟨h,.sl sz rows _ 0 cap r l ?_ ?_,d,z⟩
 .intro k hk;have n:k<vs.size:=by omega
  have a:vs[k]?=some vs[k]:=zbl n;have o:k<rows.flatten.length:=by omega
  refine⟨by grind,vs[k],by rw[zbh,D];exact a,(q k _ _ (zaf o) a).2⟩
 .intro i j row c u hi t a;rw[zbh,D]at a;exact((q _ c u (ig l hi t) a).1).mono s
def Jv{lim w sz rows v}(h:cq lim w (.sl sz rows) v):
  ∃(A:LX Addr) (c:Nat) (vs:LQ uB),v=.slice A rows.length c/\vs.length=rows.length*sz/\(rows.length=0∨∃b off,A=some ⟨b,off,none⟩)/\(A=none->rows.length=0/\c=0) /\
   (∀b off,A=some ⟨b,off,none⟩->∀j u,vs[j]?=some u->w.cell? ⟨b,off+j,none⟩=some u)/\(∀row∈rows,row.length=sz) /\
   ∀(j:Nat) u c,vs[j]?=some u->rows.flatten[j]?=some c->cq lim w c u/\u.oneCell'=true:=by
 cases h with
 | nil _ A=>exact⟨A,0,[],rfl,by simp,.inl rfl,λ_=>⟨rfl,rfl⟩,by simp,by simp,by simp⟩
 | sl _ _ b off cap i H hx h =>
  have k:=eK H;refine⟨some ⟨b,off,none⟩,cap,(List.range (rows.length*sz)).map λj=>(w.cell? ⟨b,off+j,none⟩).getD undef,rfl,by simp,.inr ⟨b,off,rfl⟩,(λh=>by cases h),?_,H,?_⟩
  .grind
  .intro j u c a r;have d:j<rows.length*sz:=by have:=(zad.1 r).1;omega
   rw[zau]at a;obtain⟨_,g,e,h1⟩:=hx j d;simp[List.getElem?_range d,e]at a;subst a;refine⟨?_,h1⟩;have dE:0<sz:=by
    grind
   have M:j=(j / sz)*sz+j % sz:=by rw[zda];exact(zeg j sz).symm
   have hi:j / sz<rows.length:=zdg (by rw[zda];exact d);have hm:j % sz<rows[j / sz].length:=by rw[H _ (zft hi)];exact zdq _ dE
   have f:=ig H (zaf hi) (zaf hm);rw[←M,r]at f;cases f;refine h (j / sz) (j % sz) _ _ g (zaf hi) (zaf hm) ?_;rw[←M];exact e
def PM{lim w sz rows A c l h}(a:cq lim w (.sl sz rows) (.slice A rows.length c))(d:l<=h)(j:h<=rows.length)(m:rows.length<=c):
  cq lim w (.sl sz ((rows.take h).drop l)) (sliced A l h c sz):=by
 unfold sliced;have H:((rows.take h).drop l).length=h-l:=by grind
 cases a with
 | nil =>
  have:h=0:=by omega
  subst this;have:l=0:=by omega
  subst this;simpa using cq.nil sz _
 | sl _ _ b off cap r e hx n =>
  have key:∀o,(o=off+l*sz∨h-l=0)->cq lim w (.sl sz ((rows.take h).drop l)) (.slice (some ⟨b,o,none⟩) (h-l) (c-l)):=by
   intro o f;rw[←H];refine .sl sz _ b o (c-l) (by rw[H];omega) (λrow g=>e row (zco (zca g))) ?_ ?_
   .intro k hk;rw[H]at hk;rcases f with rfl|h0
    .have i:l*sz+k<rows.length*sz:=by
      have h1:(l+(h-l))*sz<=rows.length*sz:=zbn sz (by omega);rw[zcu]at h1;omega
     have:=hx (l*sz+k) i;rw[zcw];exact this
    simp_all
   grind
  split
  .grind
  .simp only[Option.map_some,Addr.add_lit];simp_all
end g
def nE:EV->Option (Nat×List (List D))
 | .d (.sl sz rows)=>some (sz,rows)
 | .d (.e0 sz)=>some (sz,[])
 | .dA sz rows _=>some (sz,rows)
 | _=>none
def i7{g w st e sz rows v}(h:nE e=some (sz,rows))(hv:aY g w st e v):cq g.lim w (.sl sz rows) v:=by
 unfold nE at h;split at h
 .cases h;cases hv with|d _ _ h=>exact h
 .cases h;cases hv with|d _ _ h=>exact D.RO h
 .cases h;cases hv with|dA _ _ _ _ _ _ h=>exact h
 .cases h
section q
variable {P:uG}{base:Nat}{env:Env}{st:St}{d:Option Tmp}{ty:uE}{pos:String}{after:uD Edge}{gd:Option (Nat×Bool)}{t t2 e:uE}{x y z:uH}
def iR(ht:P.underlying t=some (.slice e)):P.elem t=e:=by simp[Program.elem,ht]
def cM{inf e}(hi:P.info? e=some inf)(w):(sizeOf e).run P w=.ok inf.size w:=by simp[sizeOf,typeInfo,hi]
section sl
variable {sz:Nat}{rows:List (List D)}{ev:EV}{inf:TypeInfo}(ht:P.underlying t=some (.slice e))(hi:P.info? e=some inf)(dE:inf.size=sz)(hx:bp env x=some ev)(hs:nE ev=some (sz,rows))
include ht hi dE hx hs
theorem PN{g w tmps}(he:cT g w st env tmps){l h}(b:l<=h)(e:h<=rows.length){lo hi'}
  (f:∀A c,rows.length<=c->∀w':uC,(Instr.slice t (.slice A rows.length c) (lo.map (Act.eval ⟨tmps,[]⟩)) (hi'.map (Act.eval ⟨tmps,[]⟩)) none).run P w'=.ok (sliced A l h c sz) w') :
  ∃v,aY g w st (.d (.sl sz ((rows.take h).drop l))) v/\∀w',Below w.heap.size w w'->(execOp (Act.eval ⟨tmps,[]⟩) ⟨d,.slice t x lo hi' none,ty,pos,after,gd⟩).run P w'=.ok (.value v) w':=by
 have H:=i7 hs (aq he hx);obtain⟨A,c,hv⟩:=yF H;rw[hv]at H;have a:rows.length<=c:=by
  cases H with
  | nil=>simp_all
  | sl _ _ _ _ _ a=>exact a
 refine⟨_,.d _ _ (PM H b e a),λw' _=>?_⟩;simp only[execOp,hv,Sem.run_bind,run_sliceAt_slice w' t _ _ _ _ (by rw[iR ht];exact ht),Option.map_none,f A c a w',Result.andThen_ok,Sem.run_pure]
theorem q_slLH{k a l h}(hy:bp env y=some (.d (.ex (.int k l))))(e:bp env z=some (.d (.ex (.int a h))))(h0:0<=l)(h1:l<=h)(h2:h<=rows.length):
  aG P env st ⟨d,.slice t x (some y) (some z) none,ty,pos,after,gd⟩ (.d (.sl sz ((rows.take h.toNat).drop l.toNat))):=λg base w tmps b H =>
 PN ht hi dE hx hs H (by omega) (by omega) λA c f w'=>by
  simp only[Option.map_some,(aq H hy).aO,(aq H e).aO];rw[run_slice_lh w' t A rows.length c (by rw[iR ht];exact ht) k a l h h0 h1 (by omega)];simp[iR ht,cM hi,dE]
theorem q_slH{k h}(b:bp env z=some (.d (.ex (.int k h))))(h0:0<=h)(h2:h<=rows.length):
  aG P env st ⟨d,.slice t x none (some z) none,ty,pos,after,gd⟩ (.d (.sl sz (rows.take h.toNat))):=λg base w tmps H a=>by
 have:=PN (d:=d) (ty:=ty) (pos:=pos) (after:=after) (gd:=gd) ht hi dE hx hs a (l:=0) (h:=h.toNat) (lo:=none) (hi':=some z) (by omega) (by omega) λA c e w'=>by
  simp only[Option.map_some,Option.map_none,(aq a b).aO];rw[run_slice_h w' t A rows.length c (by rw[iR ht];exact ht) k h h0 (by omega)];simp[iR ht,cM hi,dE]
 simp_all
theorem q_slL{k l}(hy:bp env y=some (.d (.ex (.int k l))))(h0:0<=l)(h1:l<=rows.length):
  aG P env st ⟨d,.slice t x (some y) none none,ty,pos,after,gd⟩ (.d (.sl sz (rows.drop l.toNat))):=λg base w tmps H a=>by
 have:=PN (d:=d) (ty:=ty) (pos:=pos) (after:=after) (gd:=gd) ht hi dE hx hs a (l:=l.toNat) (h:=rows.length) (lo:=some y) (hi':=none) (by omega) (by omega) λA c b w'=>by
  simp only[Option.map_some,Option.map_none,(aq a hy).aO];rw[run_slice_l w' t A rows.length c (by rw[iR ht];exact ht) k l h0 (by omega)];simp[iR ht,cM hi,dE]
 simp_all
end sl
section str
variable {a:List uA}(ht:P.underlying t=some .string)(hx:bp env x=some (.d (.ex (.string ⟨a.toArray⟩))))
include ht hx
theorem q_strLH{k b l h}(hy:bp env y=some (.d (.ex (.int k l))))(c:bp env z=some (.d (.ex (.int b h))))(h0:0<=l)(h1:l<=h)(h2:h<=a.length):
  aG P env st ⟨d,.slice t x (some y) (some z) none,ty,pos,after,gd⟩ (.d (.ex (.string ⟨((a.drop l.toNat).take (h.toNat-l.toNat)).toArray⟩))):=mG λg w tmps w' H=>by
 have e:(h.toNat:Int)=h:=zgd (by omega);have I:=run_sliceBound (P:=P) w' k l h.toNat .sliceB h0 (by omega);have E:=run_sliceBound (P:=P) w' b h a.length .sliceAlen (by omega) h2;simp[execOp,(aq H hx).aO,(aq H hy).aO,(aq H c).aO,Instr.sliceAt,Instr.slice,run_underlying ht,Instr.sliceBounds,ByteArray.size_mk',I,E,ByteArray.extract_mk]
end str
structure Src(P:uG)(w:uC)(sz:Nat)(u:uB)(m:Nat)(news:List uB):Prop where
 len:Builtin.lenOf u=pure m
 cells:∀w':uC,w'.heap=w.heap->(Builtin.firstCells sz m u).run P w'=.ok news.toArray w'
 size:news.length=m*sz
 one:∀v∈news,v.oneCell'=true
def jA w{base ty sz:Nat}{inf zv d2}(ht:P.underlying t=some (.slice e))(A:P.underlying t2=some d2)(E:d2=.string∨∃q,d2=.slice q)(hi:P.info? e=some inf)(r:inf.zero=some zv)
  (C:inf.size=sz) (F:zv.cells.size=sz) {v} {n} {xs} (f:w.ownsRow base e sz v n xs) {u} {m} {news} (hs:Src P w sz u m news)
  (s:n+m<=maxLen) (W:(n+m)*inf.bytes<=140737488355328) (I:base<=w.heap.size) :
  ∃v' w',(Builtin.append_ #[t,t2] ty #[v,u]).run P w=.ok v' w'/\w'.ownsRow base e sz v' (n+m) (xs++news)/\(m=0->v'=v) /\
   (v'.ownBlock=v.ownBlock/\w'.heap.size=w.heap.size/\w.grownBy w' v.ownBlock∨v'.ownBlock=some w.heap.size/\Below w.heap.size w w'):=by
 rcases E with rfl|⟨q,rfl⟩
 all_goals
  subst C;have d:n+m<=9223372036854775807:=by simp only[maxLen]at s;omega
  have h:(xs++news).length=(n+m)*inf.size:=by rw[zar,f.1,hs.size,zcu]
  have hl:=hs.len;have grown:∀(old:Nat),old<n+m ->
    (w.drew.alloc (.cells (xs.toArray++news.toArray++Builtin.zeroCells zv.cells (grownCap w (n+m) old e-(n+m))) e)).ownsRow base e inf.size
     (.slice (some ⟨w.heap.size,0,none⟩) (n+m) (grownCap w (n+m) old e)) (n+m) (xs++news) /\
    Below w.heap.size w (w.drew.alloc (.cells (xs.toArray++news.toArray++Builtin.zeroCells zv.cells (grownCap w (n+m) old e-(n+m))) e)):=by
   intro old N;have l:=grownCap_ge w (n+m) old e;have o:grownCap w (n+m) old e<=maxLen:=grownCap_le_maxLen w (n+m) old e s;refine⟨⟨h,.inr ⟨w.heap.size,_,_,rfl,I,heap_alloc_new w.drew _,l,o,?_,?_⟩⟩,((Below.refl _ w).drew).alloc (zag _) _⟩
   .simp only[Array.size_append,zbp,size_zeroCells,F,f.1,hs.size,←zcu];congr 1;omega
   .simp only[zge,zas];rw[←zas,←h];exact zgf
  rcases f.2 with⟨rfl,rfl⟩|⟨g,cap,c,rfl,p,x,O,o,J,M⟩
  .have hx:xs=[]:=zax (by simpa using f.1);subst hx;by_cases y:m=0
   .subst y;have hn:news=[]:=zax (by simpa using hs.size);subst hn;refine⟨.slice none 0 0,w,?_,World.ownsRow_nil w base e inf.size,λ_=>rfl,.inl ⟨rfl,rfl,⟨rfl,rfl,rfl,zag _,λ_ _ _=>rfl⟩⟩⟩;have a:=hs.cells w rfl;simp[Builtin.append_,run_underlying ht,run_underlying A,sizeOf,typeInfo,hi,hl,a]
   .have H:=grown 0 (by omega);refine⟨_,_,?_,H.1,λh0=>by omega,.inr ⟨rfl,H.2⟩⟩;have a:=hs.cells w.drew rfl;have K:¬m=0:=y;have D:¬(9223372036854775807<(m:Int)):=by omega
    have G:¬(281474976710656<Builtin.nextslicecap m 0*inf.bytes):=by
     have z:=W;rw[zbh]at z;have:=growslice_fits (need:=m) (old:=0) (by omega) z;omega
    simp[Builtin.append_,run_underlying ht,run_underlying A,sizeOf,typeInfo,zeroValue,hi,r,hl,K,D,G,Question.forced,run_firstCells_none,a,newRow,grownCap]
  .by_cases i:n+m<=cap
   .have L:n*inf.size+news.length<=c.size:=by rw[hs.size,J,←zcu];exact zbn _ i
    have B:=run_storeCells_at P g (n*inf.size) e news 0 c w x (by simpa using L) hs.one;simp only[zct]at B;have a:=hs.cells w rfl;refine⟨.slice (some ⟨g,0,none⟩) (n+m) cap,w.setRow g (c.toList.take (n*inf.size)++news++c.toList.drop (n*inf.size+news.length)).toArray,?_,⟨h,.inr ⟨g,cap,_,rfl,p,setRow_heap w g c _ e _ x,i,o,?_,?_⟩⟩,λh0=>by subst h0;rfl,.inl ⟨rfl,by simp,⟨rfl,rfl,rfl,by simp,λk _ hk=>setRow_other w g k _ (λe=>hk (by simp[Value.ownBlock,e]))⟩⟩⟩
    .simp[Builtin.append_,run_underlying ht,run_underlying A,sizeOf,typeInfo,hi,hl,i,a,Addr.add_lit,B]
    .simp only[zbp,zar,zaw,zbc,zbx];omega
    .rw[M,←h];exact zgf
   .have b:∀j u,xs[j]?=some u->w.cell? ((⟨g,0,none⟩:Addr).add j)=some u:=f.cells (g:=g) rfl;have H:=grown cap (by omega);refine⟨_,_,?_,H.1,λh0=>by omega,.inr ⟨rfl,H.2⟩⟩;have a:=hs.cells w.drew rfl;have hold:=run_firstCells_some (P:=P) w.drew inf.size n ⟨g,0,none⟩ n cap xs f.1 (by simpa using b);have D:¬(9223372036854775807<((n:Int)+(m:Int))):=by omega
    have G:¬(281474976710656<Builtin.nextslicecap (n+m) cap*inf.bytes):=by
     have:=growslice_fits (need:=n+m) (old:=cap) (by omega) W;omega
    simp[Builtin.append_,run_underlying ht,run_underlying A,sizeOf,typeInfo,zeroValue,hi,r,hl,i,D,G,Question.forced,hold,a,newRow,grownCap];rw[show(xs++news).toArray=xs.toArray++news.toArray from by simp,Array.append_assoc]
end q
def Kx{w lim}{base e sz n:Nat}{v xs rows}(H:w.ownsRow base e sz v n xs)(hn:rows.length=n)(a:∀row∈rows,row.length=sz)
  (hl:∀b,v.ownBlock=some b->n*sz<=lim b) (hx:∀(j:Nat) u c,xs[j]?=some u->rows.flatten[j]?=some c->cq lim w c u/\u.oneCell'=true):cq lim w (.sl sz rows) v:=by
 rcases H.2 with⟨rfl,rfl⟩|⟨g,cap,f,rfl,q,r,D,s,t,M⟩
 .have:=zax hn;subst this;exact .nil sz _
 .subst hn;have A:=eK a;have o:=H.cells rfl;refine .sl sz rows g 0 cap D a ?_ ?_
  .intro k hk;have h:k<xs.length:=by rw[H.1];exact hk
   have h1:=o k xs[k] (zaf h);rw[Addr.add_lit]at h1;have d:k<rows.flatten.length:=by rw[A];exact hk
   exact⟨by have:=hl g rfl;omega,xs[k],h1,(hx k _ _ (zaf h) (zaf d)).2⟩
  .intro i j row c u hi l m;have p:=Kt (zad.1 hi).1 (show j<sz by grind);have h:i*sz+j<xs.length:=by rw[H.1];exact p
   have h1:=o _ xs[i*sz+j] (zaf h);rw[Addr.add_lit,m]at h1;cases h1;exact(hx _ _ _ (zaf h) (ig a hi l)).1
structure Ao(P:uG)(lim:Nat->Nat)(w:uC)(sz:Nat)(u:uB)(rs:List (List D))(news:List uB):Prop where
 src:Src P w sz u rs.length news
 rows:∀row∈rs,row.length=sz
 rep:∀(j:Nat) v c,news[j]?=some v->rs.flatten[j]?=some c->cq lim w c v/\v.oneCell'=true
def rP{P lim w sz u rows}(h:cq lim w (.sl sz rows) u):∃n,Ao P lim w sz u rows n:=by
 obtain⟨A,c,vs,rfl,hl,e,I,f,H,a⟩:=Jv h;have i:=eK H;refine⟨vs,⟨rfl,λw' g=>?_,hl,λv hv=>?_⟩,H,a⟩
 .cases A with
  | none =>
   have:=zax (by rw[hl,(I rfl).1];simp);subst this;simp[Builtin.firstCells]
  | some k =>
   rcases e with h0|⟨b,off,p⟩
   .have:=zax (by rw[hl,h0];simp);subst this;simp[Builtin.firstCells,h0,loadCells,loadCellsFrom]
   .cases p;refine run_firstCells_some w' sz rows.length _ _ c vs hl λj v hv=>?_
    rw[Addr.add_lit];have:=f b off rfl j v hv;simpa[World.cell?,g] using this
 .obtain⟨j,d⟩:=zcr.1 hv;have t:=(zad.1 d).1;exact(a j v _ d (zaf (by omega))).2
def xm(l:List uA):= l.map λb=>[D.ex (.int .u8 b.toNat)]
section append
variable {P:uG}{g:eI}{base:Nat}{w:uC}{st:St}
def ju.PQ(x:ju):= if x.own=none then x.n*x.sz else 0
def rZ{x:ju}(h:x.own=none):x.PQ=x.n*x.sz:=by simp[ju.PQ,h]
def Bq{x:ju}{p}(h:x.own=some p):x.PQ=0:=by simp[ju.PQ,h]
def Inv.MV(h:Inv g base w st){t x}(hx:st.ag[t]?=some x){b}(H:(g.tk t).ownBlock=some b):g.lim b=x.PQ:=by
 obtain⟨e,sz,n,own⟩:=x;cases own with
 | none=>obtain⟨xs,_,h2⟩:=h.tail t e sz n hx;exact h2 b H
 | some rows=>obtain⟨xs,_,h2,_⟩:=h.own t e sz n rows hx;exact h2 b H
def Inv.xn(h:Inv g base w st){tk x x'}(j:st.ag[tk]?=some x){v' w' C}(U:w'.ownsRow base x'.e x'.sz v' x'.n C)
  (l:v'.ownBlock=(g.tk tk).ownBlock/\w'.heap.size=w.heap.size/\w.grownBy w' (g.tk tk).ownBlock∨v'.ownBlock=some w.heap.size/\Below w.heap.size w w')
  (f:x.own=none->x'.own=none/\x'.e=x.e/\x'.sz=x.sz/\x.n<=x'.n/\(x'.n=x.n->v'=g.tk tk)/\∀b,(g.tk tk).ownBlock=some b->v'.ownBlock=some b->∀off,off<x.n*x.sz->w'.cell? ⟨b,off,none⟩=w.cell? ⟨b,off,none⟩)
  (V:∀rows,x.own=some rows->∀aT,x'.own=some aT->x'.sz=x.sz/\x.n<=x'.n/\(x.n=x'.n->v'=g.tk tk))
  (jv:∀aT,x'.own=some aT->bY g.lim w x'.sz x'.n aT C) :
  ∃g',g'.tk tk=v'/\(∀b,v'.ownBlock=some b->g'.lim b=x'.PQ)/\Inv g' base w' (st.aQ tk x')/\Step base g w st g' w' (st.aQ tk x'):=by
 have PR:∀b,(g.tk tk).ownBlock=some b->g.lim b=x.PQ:=λb H=>h.MV j H
 have bS:∀b,(g.tk tk).ownBlock=some b->base<=b/\b<w.heap.size:=λb H=>h.vF j H
 have q:tk<st.ag.length:=(zad.1 j).1;have N:w.heap.size<=w'.heap.size:=by rcases l with⟨_,h1,_⟩|⟨_,h1⟩;omega;exact h1.size
 have O:w'.os=w.os/\w'.tape=w.tape/\w'.output=w.output:=by rcases l with⟨_,_,h1⟩|⟨_,h1⟩<;>exact⟨h1.os,h1.tape,h1.output⟩
 have G:∀k,k<w.heap.size->(g.tk tk).ownBlock≠some k->w'.heap[k]?=w.heap[k]?:=by
  intro k hk I;rcases l with⟨_,_,h1⟩|⟨_,h1⟩
  .exact h1.block k hk (zcq I)
  .exact h1.block k hk
 have W:∀k,k<w.heap.size->(g.tk tk).ownBlock≠some k->v'.ownBlock≠some k:=by
  grind
 let g':eI:=⟨λb=>if v'.ownBlock=some b then x'.PQ else g.lim b,g.ob,λt=>if t=tk then v' else g.tk t⟩
 have P:∀b,v'.ownBlock=some b->g'.lim b=x'.PQ:=λb H=>by grind
 have J:∀b,v'.ownBlock≠some b->g'.lim b=g.lim b:=λb H=>by grind
 have E:g'.tk tk=v':=by grind
 have A:∀t,t≠tk->g'.tk t=g.tk t:=λt ht=>by grind
 have X:∀k,k<base->(g.tk tk).ownBlock≠some k:=λk hk D=>by have:=(bS k D).1;omega
 have Y:Below base w w':=⟨O.1,O.2.1,O.2.2,N,λk hk=>G k (zaz hk h.base) (X k hk)⟩;have Q:x.own=none->x.PQ<=x'.PQ:=by
  intro hx;obtain⟨h1,_,h3,h4,_⟩:=f hx;rw[rZ hx,rZ h1,h3];exact zbn _ h4
 have R:x.own≠none->x.PQ=0:=λhx=>by cases d:x.own with|none=>simp_all|some p=>exact Bq d
 have S:Pw g.lim w g'.lim w':=by
  refine⟨N,λb H=>?_,λb off H d=>?_⟩
  .grind
  .by_cases D:(g.tk tk).ownBlock=some b
   .rcases l with⟨h1,_,_⟩|⟨_,h1⟩
    .rw[PR b D]at d;by_cases hx:x.own=none
     .rw[rZ hx]at d;simp_all
     simp_all
    .exact h1.cell (p:=⟨b,off,none⟩) H
   .exact World.cell?_of_block (w:=w) (a:=⟨b,off,none⟩) (G b H D)
 have r:∀t y,t≠tk->(st.aQ tk x').ag[t]?=some y->st.ag[t]?=some y:=λt y ht hy=>by simpa[St.aQ,zbg,zcq ht] using hy
 have T:∀y,(st.aQ tk x').ag[tk]?=some y->y=x':=λy hy=>by
  have:x'=y:=by simpa[St.aQ,zbg,q] using hy
  simp_all
 have hs:tR g w st g' w' (st.aQ tk x'):=by
  refine⟨S,λ_ _=>rfl,zag _,λt e' K F ht=>?_,by simp[St.aQ],λt y aT rY hy d=>?_⟩
  .by_cases z:t=tk
   .subst z;rw[j]at ht;cases ht;obtain⟨h1,h2,h3,h4,v,_⟩:=f rfl;obtain⟨e1,s1,n1,o1⟩:=x';simp only at h1 h2 h3 h4 v;subst h1;subst h2;subst h3;exact⟨n1,by simp[St.aQ,zbg,q],h4,λD=>by rw[E];grind⟩
   .exact⟨F,by simp[St.aQ,zbg,zcq z,ht],zag _,λ_=>A t z⟩
  .by_cases z:t=tk
   .subst z;have:=T y hy;subst this;cases hx:x.own with
    | none=>rw[(f hx).1]at d;cases d
    | some rows =>
     simp_all
   grind
 have L:∀o,st.live o->g.ob o<w.heap.size/\(g.tk tk).ownBlock≠some (g.ob o):=λo d=>⟨(h.vJ d).1,h.gh tk _ o j d⟩
 have Ui:∀o y,st.aB[o]?=some (.raw y)->base<=g'.ob o/\g'.lim (g'.ob o)=0/\w'.heap[g'.ob o]?=some y:=by
  intro o y hx;obtain⟨h1,h2,h3⟩:=h.raw o y hx;obtain⟨s,k2⟩:=L o ⟨_,hx,by simp⟩
  grind
 have B:∀t y,t≠tk->(st.aQ tk x').ag[t]?=some y->∀b,(g.tk t).ownBlock=some b->b<w.heap.size/\(g.tk tk).ownBlock≠some b/\v'.ownBlock≠some b:=λt y z hy b H=>by
  have h1:=(h.vF (r t y z hy) H).2;have h2:=h.mo t tk _ _ b z (r t _ z hy) j H;simp_all
 refine⟨g',E,P,⟨zci h.base N,?_,?_,Ui,h.ne,?_,?_,?_,h.tS.below Y,?_⟩,⟨hs,Y,λb H=>J b (W b (zaz H h.base) (X b H)),λb H hn=>?_,λb H hw=>?_⟩⟩
 .intro o ty cs hx;obtain⟨h1,h2,vs,h3,h4,v⟩:=h.row o ty cs hx;obtain⟨s,k2⟩:=L o ⟨_,hx,by simp⟩;exact⟨h1,(J _ (W _ s k2)).trans h2,vs,by grind,h4,λi c u l Z=>⟨(v i c u l Z).1.mono hs,(v i c u l Z).2⟩⟩
 .intro o es hx;obtain⟨h1,ms,c,h3,h4,v,h6⟩:=h.map o es hx;obtain⟨s,k2⟩:=L o ⟨_,hx,by simp⟩;exact⟨h1,ms,c,by grind,h4,λi k y m a b=>⟨(v i k y m a b).1,(v i k y m a b).2.mono hs⟩,h6⟩
 .intro t e' K F ht;by_cases z:t=tk
  .subst z;have:=T _ ht;subst this;rw[E];exact⟨_,U,λb H=>(P b H).trans (rZ rfl)⟩
  .obtain⟨ys,s,k2⟩:=h.tail t e' K F (r t _ z ht);rw[A t z];exact⟨ys,ew s λb H=>G b (B t _ z ht b H).1 (B t _ z ht b H).2.1,λb H=>by rw[J b (B t _ z ht b H).2.2];grind⟩
 .intro t M y y' b I ht s5 H;by_cases h1:t=tk
  .grind
  .rw[A t h1]at H;by_cases h2:M=tk
   .grind
   .rw[A M h2];exact h.mo t M _ _ b I (r t _ h1 ht) (r M _ h2 s5) H
 .intro t y o ht d;obtain⟨s,k2⟩:=L o d;by_cases h1:t=tk
  .grind
  .rw[A t h1];exact h.gh t y o (r t _ h1 ht) d
 .intro t e' K F aT ht;by_cases z:t=tk
  .subst z;have:=T _ ht;subst this;rw[E];exact⟨_,U,λb H=>(P b H).trans (Bq rfl),(jv aT rfl).mono S⟩
  .obtain⟨ys,s,k2,k3⟩:=h.own t e' K F aT (r t _ z ht);rw[A t z];exact⟨ys,ew s λb H=>G b (B t _ z ht b H).1 (B t _ z ht b H).2.1,λb H=>by rw[J b (B t _ z ht b H).2.2];grind,k3.mono S⟩
 .have I:(g.tk tk).ownBlock≠some b:=λe=>hn (.inr ⟨tk,x,j,e⟩)
  simp_all
 .rcases hw with⟨o,h1,h2⟩|⟨t,y,h1,h2⟩
  .exact .inl ⟨o,h1,h2⟩
  .by_cases z:t=tk
   .subst z;rw[E]at h2;rcases l with⟨c1,_,_⟩|⟨c1,_⟩
    .exact .inr ⟨t,x,j,by rw[←c1];exact h2⟩
    simp_all
   .rw[A t z]at h2;exact .inr ⟨t,y,r t y z h1,h2⟩
def Inv.append(h:Inv g base w st){tk e sz n m:Nat}(d:st.ag[tk]?=some ⟨e,sz,n,none⟩){v' w' xs news}(f:w.ownsRow base e sz (g.tk tk) n xs)(i:w'.ownsRow base e sz v' (n+m) (xs++news))
  (W:m=0->v'=g.tk tk)
  (j:v'.ownBlock=(g.tk tk).ownBlock/\w'.heap.size=w.heap.size/\w.grownBy w' (g.tk tk).ownBlock∨v'.ownBlock=some w.heap.size/\Below w.heap.size w w') :
  ∃g',g'.tk tk=v'/\(∀b,v'.ownBlock=some b->g'.lim b=(n+m)*sz)/\Inv g' base w' (st.aQ tk ⟨e,sz,n+m,none⟩)/\Step base g w st g' w' (st.aQ tk ⟨e,sz,n+m,none⟩):=by
 obtain⟨g',h1,h2,h3,h4⟩:=h.xn (x':=⟨e,sz,n+m,none⟩) d i j
  (λ_=>⟨rfl,rfl,rfl,Nat.le_add_right _ _,λc=>W (by simp_all),λb c hv off k=>by
   have H:off<xs.length:=by rw[f.1];exact k
   have c1:=f.cells c off xs[off] (zaf H);have c2:=i.cells hv off xs[off] (by rw[zaj H];simp_all);rw[Addr.add_lit,zbh]at c1 c2;rw[c1,c2]⟩)
  (λrows a=>by cases a) (λrows a=>by cases a)
 exact⟨g',h1,λb l=>(h2 b l).trans (rZ rfl),h3,h4⟩
def Inv.tn(h:Inv g base w st) x{v w' xs}(G:w'.ownsRow base x.e x.sz v x.n xs)
  (z:w'=w/\v.ownBlock=none∨v.ownBlock=some w.heap.size/\Below w.heap.size w w')
  (K:∀rows,x.own=some rows->bY g.lim w x.sz x.n rows xs) :
  ∃g',g'.tk st.ag.length=v/\(∀b,v.ownBlock=some b->g'.lim b=x.PQ)/\(∀b,b<w.heap.size->g'.lim b=g.lim b)/\Inv g' base w' (st.tok x)/\Step base g w st g' w' (st.tok x):=by
 have l:Below w.heap.size w w':=by
  rcases z with⟨rfl,_⟩|⟨_,h1⟩
  .exact .refl _ _
  omega
 have r:∀b,v.ownBlock=some b->b=w.heap.size:=by
  grind
 let g':eI:=⟨λb=>if v.ownBlock=some b then x.PQ else g.lim b,g.ob,λt=>if t=st.ag.length then v else g.tk t⟩
 have B:∀b,v.ownBlock=some b->g'.lim b=x.PQ:=λb H=>by grind
 have p:∀b,b<w.heap.size->g'.lim b=g.lim b:=λb H=>by
  grind
 have h1:g'.tk st.ag.length=v:=by grind
 have h2:∀t,t≠st.ag.length->g'.tk t=g.tk t:=λt ht=>by grind
 have d:∀t y,(st.tok x).ag[t]?=some y->(t<st.ag.length/\st.ag[t]?=some y)∨(t=st.ag.length/\y=x):=by
  intro t y hx;have f:=(zad.1 hx).1;simp[St.tok]at f;by_cases ht:t<st.ag.length
  .exact .inl ⟨ht,by simpa[St.tok,zaj ht] using hx⟩
  .have:t=st.ag.length:=by omega
   subst this;exact .inr ⟨rfl,by simpa[St.tok,eq_comm] using hx⟩
 have C:Pw g.lim w g'.lim w':=⟨l.size,λb H=>by rw[p b H];omega,λb off H _=>l.cell H⟩
 have hs:tR g w st g' w' (st.tok x):=⟨C,λ_ _=>rfl,zag _,λt e' F n ht=>by
  have f:=(zad.1 ht).1;exact⟨n,by simp[St.tok,zaj f,ht],zag _,λ_=>h2 t (by omega)⟩,by simp[St.tok],uK λt y aT f hy _=>⟨by
   grind,h2 t (by omega)⟩⟩
 have P:∀t y b,st.ag[t]?=some y->(g.tk t).ownBlock=some b->v.ownBlock≠some b:=λt y b hy H hv=>by
  have:=(h.vF hy H).2;have:=r b hv;omega
 refine⟨g',h1,B,p,⟨zci h.base l.size,λo ty cs hx=>?_,λo es hx=>?_,λo y hx=>?_,h.ne,?_,?_,?_,h.tS.below (l.mono h.base),?_⟩,⟨hs,l.mono h.base,λb H=>p b (zaz H h.base),λb H _=>⟨l.block b H,p b H⟩,λb H L=>?_⟩⟩
 .obtain⟨j,k2,vs,k3,k4,k5⟩:=h.row o ty cs hx;have f:=(zbe.1 k3).1;exact⟨j,(p _ f).trans k2,vs,(l.block _ f).trans k3,k4,λi c u z I=>⟨(k5 i c u z I).1.mono hs,(k5 i c u z I).2⟩⟩
 .obtain⟨j,M,c,k3,k4,k5,k6⟩:=h.map o es hx;have f:=(zbe.1 k3).1;exact⟨j,M,c,(l.block _ f).trans k3,k4,λi k y m a b=>⟨(k5 i k y m a b).1,(k5 i k y m a b).2.mono hs⟩,k6⟩
 .obtain⟨j,k2,k3⟩:=h.raw o y hx;have f:=(zbe.1 k3).1;exact⟨j,(p _ f).trans k2,(l.block _ f).trans k3⟩
 .intro t e' F n ht;rcases d t _ ht with⟨f,s⟩|⟨rfl,q⟩
  .rw[h2 t (by omega)];obtain⟨ys,j,k2⟩:=h.tail t e' F n s;exact⟨ys,ew j λb H=>l.block b (j.lt b H).2,λb H=>(p b (j.lt b H).2).trans (k2 b H)⟩
  .subst q;rw[h1];exact⟨xs,G,λb H=>(B b H).trans (rZ rfl)⟩
 .intro t D y N b O ht s H;rcases d t _ ht with⟨f,k⟩|⟨rfl,q⟩
  .rw[h2 t (by omega)]at H;rcases d D _ s with⟨Q,k'⟩|⟨rfl,R⟩
   .rw[h2 D (by omega)];exact h.mo t D y N b O k k' H
   grind
  grind
 .intro t y o ht J;rcases d t _ ht with⟨f,k⟩|⟨rfl,q⟩
  .rw[h2 t (by omega)];exact h.gh t y o k J
  .rw[h1];intro e;have:=r _ e;have:=(h.vJ J).1;have S:g'.ob o=g.ob o:=rfl;omega
 .intro t e' F n aT ht;rcases d t _ ht with⟨f,s⟩|⟨rfl,q⟩
  .rw[h2 t (by omega)];obtain⟨ys,j,k2,k3⟩:=h.own t e' F n aT s;exact⟨ys,ew j λb H=>l.block b (j.lt b H).2,λb H=>(p b (j.lt b H).2).trans (k2 b H),k3.mono C⟩
  .subst q;rw[h1];exact⟨xs,G,λb H=>(B b H).trans (Bq rfl),(K aT rfl).mono C⟩
 .rcases L with⟨o,E,A⟩|⟨t,y,E,A⟩
  .exact .inl ⟨o,E,A⟩
  .rcases d t _ E with⟨f,k⟩|⟨rfl,q⟩
   .rw[h2 t (by omega)]at A;exact .inr ⟨t,y,k,A⟩
   simp_all
def Inv.PT(h:Inv g base w st)(e sz:Nat):∃g',g'.tk st.ag.length=.slice none 0 0/\Inv g' base w (st.tok ⟨e,sz,0,none⟩)/\Step base g w st g' w (st.tok ⟨e,sz,0,none⟩):=by
 obtain⟨g',h1,_,_,h2,h3⟩:=h.tn ⟨e,sz,0,none⟩ (World.ownsRow_nil w base _ _) (.inl ⟨rfl,rfl⟩) (λrows H=>by cases H)
 grind
end append
section rules
variable {P:uG}{f:Ctx}{N:Nat}{S:Start}{Q:EV->St->Prop}{k:List Item}{base:Nat}{env:Env}{st:St}{ops rest:List Oper}
 {d:Option Tmp} {ty:uE} {pos:String} {after:uD Edge} {gd:Option (Nat×Bool)} {t t2 e:uE} {x y:uH}
def vL{w}{ty sz:Nat}{inf z d2}(ht:P.underlying t=some (.slice e))(a:P.underlying t2=some d2)(E:d2=.string∨∃h,d2=.slice h)(hi:P.info? e=some inf)(f:inf.zero=some z)(d:inf.size=sz)
  {u} {m} {news} (hs:Src P w sz u m news) (g:m<=4611686018427387904) (hn:m*inf.bytes<=140737488355328) (A) :
  (m=0->(Builtin.append_ #[t,t2] ty #[.slice A 0 0,u]).run P w=.ok (.slice A 0 0) w) /\
  (m≠0->(Builtin.append_ #[t,t2] ty #[.slice A 0 0,u]).run P w=(Builtin.append_ #[t,t2] ty #[.slice none 0 0,u]).run P w):=by
 have hl:=hs.len;have b:(match d2 with|.int _=>true|_=>false)=false:=by rcases E with rfl|⟨h,rfl⟩<;>rfl
 subst d;constructor
 .intro H;subst H;have J:news=[]:=zax (by simpa using hs.size);subst J;have c:=hs.cells w rfl;rcases E with rfl|⟨h,rfl⟩<;>cases A<;>simp[Builtin.append_,run_underlying ht,run_underlying a,sizeOf,typeInfo,hi,hl,c,storeCells]
 .intro H;have i:¬(m<=0):=by omega
  have h1:∀w',(Builtin.firstCells inf.size 0 (.slice A 0 0)).run P w'=.ok #[] w':=λw'=>by cases A<;>simp[Builtin.firstCells,loadCells,loadCellsFrom]
  have h2:∀w',(Builtin.firstCells inf.size 0 (.slice none 0 0)).run P w'=.ok #[] w':=λw'=>by simp[Builtin.firstCells]
  have D:¬(9223372036854775807<(m:Int)):=by omega
  have G:¬(281474976710656<Builtin.nextslicecap m 0*inf.bytes):=by
   have:=growslice_fits (need:=m) (old:=0) (by omega) hn;omega
  rcases E with rfl|⟨h,rfl⟩<;>simp[Builtin.append_,run_underlying ht,run_underlying a,sizeOf,typeInfo,hi,hl,H,h1,h2,D,G,Question.forced]
def MW{g w v u sz rows aT tk inf z d2}(ht:P.underlying t=some (.slice e))(y:P.underlying t2=some d2)(E:d2=.string∨∃B,d2=.slice B)
  (hi:P.info? e=some inf) (C:inf.zero=some z) (D:inf.size=sz) (G:z.cells.size=sz) (hinv:Inv g base w st) (I:aY g w st (.dA sz rows tk) v) (i:st.ag[tk]?=some ⟨e,sz,rows.length,none⟩) (F:v=g.tk tk)
  (hn:(rows.length+aT.length)*inf.bytes<=140737488355328) (PO:rows.length+aT.length<=4611686018427387904)
  {news} (k:Ao P g.lim w sz u aT news) :
  ∃v' g' w',(Builtin.append_ #[t,t2] ty #[v,u]).run P w=.ok v' w'/\aY g' w' (st.aQ tk ⟨e,sz,(rows++aT).length,none⟩) (.dA sz (rows++aT) tk) v'/\Inv g' base w' (st.aQ tk ⟨e,sz,(rows++aT).length,none⟩) /\
   Step base g w st g' w' (st.aQ tk ⟨e,sz,(rows++aT).length,none⟩):=by
 rw[show(rows++aT).length=rows.length+aT.length from zar];cases I with
 | dA _ _ _ _ e0 n0 J R Jw RV =>
  rw[i]at R;obtain⟨xs,f,za⟩:=hinv.tail tk e sz _ i;obtain⟨v',w',K,q,W,L⟩:=jA w ht y E hi C D G f k.src (by simp[maxLen];omega) hn hinv.base;obtain⟨g',N,O,Q,m⟩:=hinv.append i f q W L;refine⟨v',g',w',?_,?_,Q,m⟩
  .rw[F];exact K
  .have H:=(zad.1 i).1;obtain⟨A,c,vs,a,S,T,IP,U,V,s⟩:=Jv J;refine .dA sz _ tk v' e (rows.length+aT.length) (Kx q (by simp) ?_ (λb X=>zex (O b X).symm) ?_) (by simp[St.aQ,H]) (by simp) (λ_=>.inl N.symm)
   .intro row Y;rcases zbi.1 Y with h|h
    .simp_all
    .exact k.rows row h
   .intro j u l d r;rw[zdj]at r;have Ak:=eK V;have x:=f.1;by_cases Z:j<xs.length
    .rw[zaj Z]at d;rw[zaj (by omega)]at r;have n:j<vs.length:=by omega
     have M:vs[j]?=some u:=by
      have o:=zaf n;rcases T with h0|⟨b,off,p⟩
      .rw[h0]at x;omega
      .have c1:=U b off p j _ o;have zJ:(g.tk tk).ownBlock=some b/\off=0:=by
        rcases f.2 with⟨h1,h2⟩|⟨gb,cap,cur,h1,_⟩
        .rw[h2]at x;omega
        .rw[←F,a,p]at h1;cases h1;exact⟨by rw[←F,a,p];rfl,rfl⟩
       have c2:=f.cells zJ.1 j u d;rw[Addr.add_lit]at c2;simp_all
     exact⟨(s j u l M r).1.mono m.cU.bp,(s j u l M r).2⟩
    .rw[zan (by omega)]at d;rw[zan (by omega)]at r;have o:rows.flatten.length=xs.length:=by omega
     rw[o]at r;exact⟨(k.rep _ u l d r).1.mono m.cU.bp,(k.rep _ u l d r).2⟩
def Gc{g w v u sz rows aT tk inf z d2}(ht:P.underlying t=some (.slice e))(c:P.underlying t2=some d2)(E:d2=.string∨∃B,d2=.slice B)
  (hi:P.info? e=some inf) (d:inf.zero=some z) (f:inf.size=sz) (o:z.cells.size=sz) (hinv:Inv g base w st) (D:aY g w st (.dA sz rows tk) v) (i:st.ag[tk]?=some ⟨e,sz,rows.length,none⟩)
  (hn:(rows.length+aT.length)*inf.bytes<=140737488355328) (k:rows.length+aT.length<=4611686018427387904)
  {news} (r:Ao P g.lim w sz u aT news) :
  ∃v' g' w',(Builtin.append_ #[t,t2] ty #[v,u]).run P w=.ok v' w'/\aY g' w' (st.aQ tk ⟨e,sz,(rows++aT).length,none⟩) (.dA sz (rows++aT) tk) v'/\Inv g' base w' (st.aQ tk ⟨e,sz,(rows++aT).length,none⟩) /\
   Step base g w st g' w' (st.aQ tk ⟨e,sz,(rows++aT).length,none⟩):=by
 by_cases F:v=g.tk tk
 .exact MW ht c E hi d f o hinv D i F hn k r
 cases D with
 | dA _ _ _ _ e0 U C R V G =>
  rw[i]at R;cases R;obtain⟨h0,A,p⟩:=(G rfl).resolve_left F;have W:=zax h0;subst W;simp at hn k;obtain⟨q1,q2⟩:=vL (ty:=ty) ht c E hi d f r.src k hn A;have H:=i;have hlen:=(zad.1 H).1;by_cases l:aT.length=0
  .have m:=zax l;subst m;have I:st.aQ tk ⟨e,sz,0,none⟩=st:=by
    unfold St.aQ;have:st.ag.set tk ⟨e,sz,0,none⟩=st.ag:=by
     apply zbv
     grind
    rw[this]
   simp;rw[I];exact⟨v,g,w,by grind,.dA sz [] tk v e 0 C H (zag _) (λ_=>.inr ⟨rfl,A,p⟩),hinv,.refl _ _ _ _⟩
  .obtain⟨xs,q,_⟩:=hinv.tail tk e sz _ H;have K:=zax (by rw[q.1];simp);subst K;obtain⟨v',w',J,n,_,L⟩:=jA w ht c E hi d f o (World.ownsRow_nil w base e sz) r.src (by simp[maxLen];omega) (by simp_all) hinv.base;have a:v'.ownBlock=some w.heap.size/\Below w.heap.size w w':=by
    rcases L with⟨h1,_⟩|h
    .rcases n.2 with⟨_,h2⟩|⟨X,cap,M,h2,_⟩
     .omega
     .rw[h2]at h1;cases h1
    .exact h
   obtain⟨g',N,O,Q,s⟩:=hinv.append H q n (λh=>absurd h l) (.inr a);have S:([]++aT).length=0+aT.length:=by simp
   rw[S];refine⟨v',g',w',by rw[p,q2 l];exact J,?_,Q,s⟩;refine .dA sz _ tk v' e (0+aT.length) (Kx n (by simp) (λrow Y=>r.rows row (by simp_all)) (λb T=>zex (O b T).symm) λj u x y a=>?_) (by simp[St.aQ,zbg,hlen]) (by simp) (λ_=>.inl N.symm);exact⟨(r.rep _ u x y a).1.mono s.cU.bp,(r.rep _ u x y a).2⟩
def MY{sz rows aT tk inf z d2}(ht:P.underlying t=some (.slice e))(A:P.underlying t2=some d2)(E:d2=.string∨∃a,d2=.slice a)
  (hi:P.info? e=some inf) (b:inf.zero=some z) (c:inf.size=sz) (k:z.cells.size=sz) (hx:bp env x=some (.dA sz rows tk)) (f:st.ag[tk]?=some ⟨e,sz,rows.length,none⟩)
  (hn:(rows.length+aT.length)*inf.bytes<=140737488355328) (i:rows.length+aT.length<=4611686018427387904)
  (G:∀g w tmps,cT g w st env tmps->∃n,Ao P g.lim w sz (Act.eval ⟨tmps,[]⟩ y) aT n) :
  uL P base env st ⟨d,.call ⟨.builtin .append,#[x,y],#[t,t2]⟩,ty,pos,after,gd⟩ (.dA sz (rows++aT) tk) (st.aQ tk ⟨e,sz,(rows++aT).length,none⟩):=by
 intro g w tmps h H;obtain⟨n,r⟩:=G g w tmps H;obtain⟨v',g',w',j,h1,h2,h3⟩:=Gc (ty:=ty) ht A E hi b c k h (aq H hx) f hn i r;exact⟨v',g',w',by simp[execOp,resolve,invoke,builtin,j],h1,h2,h3⟩
def Wy{sz rows aT tk inf z ev}(ht:P.underlying t=some (.slice e))(hi:P.info? e=some inf)(h:inf.zero=some z)(H:inf.size=sz)(k:z.cells.size=sz)
  (hx:bp env x=some (.dA sz rows tk)) (a:st.ag[tk]?=some ⟨e,sz,rows.length,none⟩) (hy:bp env y=some ev) (hs:nE ev=some (sz,aT))
  (hn:(rows.length+aT.length)*inf.bytes<=140737488355328) (b:rows.length+aT.length<=4611686018427387904) :
  uL P base env st ⟨d,.call ⟨.builtin .append,#[x,y],#[t,t]⟩,ty,pos,after,gd⟩ (.dA sz (rows++aT) tk) (st.aQ tk ⟨e,sz,(rows++aT).length,none⟩) :=
 MY ht ht (.inr ⟨e,rfl⟩) hi h H k hx a hn b λg w tmps c=>rP (i7 hs (aq c hy))
def Ul{sz aT inf z ev e0}(ht:P.underlying t=some (.slice e))(hi:P.info? e=some inf)(q:inf.zero=some z)(k:inf.size=sz)(I:z.cells.size=sz)
  (hx:bp env x=some e0) (h0:e0=.d (.e0 sz)∨e0=.d (.ex (.slice none 0 0))) (hy:bp env y=some ev) (hs:nE ev=some (sz,aT)) (hn:aT.length*inf.bytes<=140737488355328) (L:aT.length<=4611686018427387904) :
  zd P env st ⟨d,.call ⟨.builtin .append,#[x,y],#[t,t]⟩,ty,pos,after,gd⟩ (.d (.sl sz aT)):=by
 intro g base w tmps l b;have H:cq g.lim w (.e0 sz) (Act.eval ⟨tmps,[]⟩ x):=by
  rcases h0 with rfl|rfl
  .cases aq b hx with|d _ _ h=>exact h
  .rw[(aq b hx).aO];exact .e0 sz none (.inl rfl)
 obtain⟨n,r⟩:=rP (P:=P) (i7 hs (aq b hy));generalize hv:Act.eval ⟨tmps,[]⟩ x=v at H;generalize m:Act.eval ⟨tmps,[]⟩ y=u at r;cases H with
 | e0 _ A s =>
  have hl:=r.src.len;by_cases o:aT.length=0
  .have W:aT=[]:=zax o;subst W;have J:n=[]:=zax (by simpa using r.src.size);subst J;have a:=r.src.cells w rfl;refine .inl ⟨.slice A 0 0,g.lim,w,?_,.d _ _ (D.RO (.e0 sz A s)),.refl _ _,λ_ _=>rfl⟩;subst k;simp only[zdu]at hl a;cases A<;>simp[execOp,hv,m,resolve,invoke,builtin,Builtin.append_,run_underlying ht,sizeOf,typeInfo,hi,hl,a,storeCells]
  .have M:=eK r.rows;have f:=grownCap_ge w aT.length 0 e;obtain⟨B,h1,h2,h3⟩:=RT (g:=g) (w:=w) (w0:=w.drew) (sz:=sz) (cap:=grownCap w aT.length 0 e) (rows:=aT) (vs:=n.toArray++Builtin.zeroCells z.cells (grownCap w aT.length 0 e-aT.length)) (e:=e) rfl rfl rfl rfl
    r.rows f (by simp[r.src.size]) (λi c v p j=>by
     have hi':i<n.length:=by have:=(zad.1 p).1;rw[r.src.size];omega
     rw[zdp (by omega)]at j;exact r.rep i v c (by simp_all) p)
   refine .inl ⟨_,B,_,?_,.d _ _ h1,h2,h3⟩;have a:=r.src.cells w.drew rfl;subst k;have C:¬(9223372036854775807<(aT.length:Int)):=by omega
   have G:¬(281474976710656<Builtin.nextslicecap aT.length 0*inf.bytes):=by
    have:=growslice_fits (need:=aT.length) (old:=0) (by omega) hn;omega
   have K:(Builtin.firstCells inf.size 0 (.slice A 0 0)).run P w.drew=.ok #[] w.drew:=by cases A<;>simp[Builtin.firstCells,loadCells,loadCellsFrom]
   have E:aT≠[]:=λF=>o (by rw[F];rfl);simp[execOp,hv,m,resolve,invoke,builtin,Builtin.append_,run_underlying ht,sizeOf,typeInfo,zeroValue,hi,q,hl,E,C,G,Question.forced,K,a,newRow,grownCap]
def aE.tok{todo i}{e sz:Nat}(hx:lookup i env=some (.d (.ex (.slice none 0 0))))(h:aE P f N S Q todo ((i,.dA sz [] st.ag.length)::env) (st.tok ⟨e,sz,0,none⟩)):aE P f N S Q todo env st:=by
 intro g w tmps H c b hn;obtain⟨g',h1,l,hs⟩:=H.PT e sz;refine h g' w tmps l (c.step hs) ?_ hn;intro j y hy;unfold lookup at hy;cases a:Nat.beq j i with
 | true =>
  rw[a]at hy;simp at hy;subst hy;have:=zai a;subst this;obtain⟨v,k,k2⟩:=b j _ hx;rw[k2.aO]at k;exact⟨_,k,.dA sz [] _ _ e 0 (.nil sz _) (by simp[St.tok]) (zag _) (λ_=>.inl h1.symm)⟩
 | false =>
  rw[a]at hy;exact(b.mono hs.cU) j y hy
def MZ{sz aT inf z ev}(ht:P.underlying t=some (.slice e))(hi:P.info? e=some inf)(a:inf.zero=some z)(b:inf.size=sz)(k:z.cells.size=sz)
  (hx:bp env x=some (.d (.ex (.slice none 0 0)))) (hy:bp env y=some ev) (hs:nE ev=some (sz,aT))
  (hn:aT.length*inf.bytes<=140737488355328) (i:aT.length<=4611686018427387904) :
  uL P base env st ⟨d,.call ⟨.builtin .append,#[x,y],#[t,t]⟩,ty,pos,after,gd⟩ (.dA sz aT st.ag.length) ((st.tok ⟨e,sz,0,none⟩).aQ st.ag.length ⟨e,sz,aT.length,none⟩):=by
 intro g w tmps h H;obtain⟨j,c,k2,k3⟩:=h.PT e sz;obtain⟨news,r⟩:=rP ((i7 hs (aq H hy)).mono k3.cU.bp);obtain⟨v',g',w',f,h1,h2,h3⟩:=Gc (ty:=ty) ht ht (.inr ⟨e,rfl⟩) hi a b k k2 (.dA sz [] st.ag.length (.slice none 0 0) e 0 (.nil sz _) (by simp[St.tok]) (zag _) (λ_=>.inl c.symm)) (by simp[St.tok]) (by simp_all) (by simp_all) r;exact⟨v',g',w',by simp[execOp,(aq H hx).aO,resolve,invoke,builtin,f],by simp_all,by simp_all,by simpa using k3.trans h3⟩
end rules
def lay(cells new:uD uB)(off:Nat):= new.zipIdx.foldl (λcs (c,j)=>cs.setIfInBounds (off+j) c) cells
def M0(off):∀(l:LQ uB) k cells,((l.zipIdx k).foldl (λcs p=>cs.setIfInBounds (off+p.2) p.1) cells).size=cells.size /\
  ∀i,i<cells.size->((l.zipIdx k).foldl (λ(cs:uD uB) p=>cs.setIfInBounds (off+p.2) p.1) cells)[i]?=if off+k<=i/\i<off+k+l.length then l[i-(off+k)]? else cells[i]?
 | [],k,cells=>by simp_all
 | v::l,k,cells=>by
  obtain⟨h1,h2⟩:=M0 off l (k+1) (cells.setIfInBounds (off+k) v);rw[List.zipIdx_cons,zfg]
  grind
def KC(cells new) off(h:off+new.size<=cells.size):
  (lay cells new off).size=cells.size/\∀i,i<cells.size->(lay cells new off)[i]?=if off<=i/\i<off+new.size then new[i-off]? else cells[i]?:=by
 have:=M0 off new.toList 0 cells;unfold lay;rw[←Array.foldl_toList,Array.toList_zipIdx]
 grind
def Ge(lim:Nat->Nat)(w:uC)(cs:List D)(vs:uD uB):=
 vs.size=cs.length/\∀(i:Nat) c (u),cs[i]?=some c->vs[i]?=some u->cq lim w c u/\u.oneCell'=true
def xc(cs:List D)(off:Nat)(new:List D):= cs.take off++new++cs.drop (off+new.length)
def Ge.lay{lim w cs new vs us off}(h:Ge lim w cs vs)(hn:Ge lim w new us)(b:off+new.length<=cs.length):Ge lim w (xc cs off new) (lay vs us off):=by
 obtain⟨h1,h2⟩:=KC vs us off (by rw[h.1,hn.1];exact b);refine⟨by rw[h1,h.1];simp[xc];omega,λi c u H a=>?_⟩
 have hi:i<vs.size:=by rw[←h1];grind
 rw[h2 i hi]at a;unfold xc at H;have x:=h.1;have U:=hn.1;by_cases d:i<off
 .rw[zaa (by omega)]at a;rw[zas,zaj (by grind),zah,zab d]at H;exact h.2 i c u H a
 .by_cases g:i<off+new.length
  .rw[zab (by omega)]at a;rw[zas,zan (by grind),zaj (by grind)]at H;have e:(cs.take off).length=off:=by grind
   rw[e]at H;exact hn.2 _ c u H a
  .rw[zaa (by omega)]at a;rw[zan (by grind)]at H;have e:(cs.take off++new).length=off+new.length:=by grind
   rw[e,zbd]at H;have f:off+new.length+(i-(off+new.length))=i:=by omega
   rw[f]at H;exact h.2 i c u H a
def cellsD:EV->Option (List D)
 | .d (.ex v)=>if v.oneCell' then some [.ex v]else none
 | .d (.agg cs)=>some cs
 | .d (.sl sz rows)=>some [.sl sz rows]
 | .d (.ro cs)=>some [.ro cs]
 | .d (.e0 sz)=>some [.e0 sz]
 | .dA sz rows _=>some [.sl sz rows]
 | _=>none
def iE{g w st e cs v}(h:cellsD e=some cs)(hv:aY g w st e v):Ge g.lim w cs v.cells:=by
 have key:∀{e':EV} {H:LQ EV},ek e'=some H->H=cs.map EV.d->aY g w st e' v->Ge g.lim w cs v.cells:=by
  intro e' H b a M;obtain⟨k,k2⟩:=nD b M;refine⟨by rw[k,a];simp,λi c u r f=>?_⟩
  have:=k2 i (.d c) u (by rw[a,zau,r];rfl) f;exact⟨by cases this.1 with|d _ _ h=>exact h,this.2⟩
 cases e with
 | d x =>
  cases x with
  | ex u =>
   simp only[cellsD]at h;split at h
   .rename_i h1;cases h;exact key (e':=.d (.ex u)) (by simp only[ek];rw[zab h1];rfl) rfl hv
   .cases h
  | agg H=>cases h;exact key (e':=.d (.agg cs)) rfl rfl hv
  | dp=>cases h
  | sl sz rows=>cases h;exact key (e':=.d (.sl sz rows)) rfl rfl hv
  | ro H=>cases h;exact key (e':=.d (.ro H)) rfl rfl hv
  | e0 sz=>cases h;exact key (e':=.d (.e0 sz)) rfl rfl hv
  | any=>cases h
 | dA sz rows t =>
  cases h;cases hv with|dA _ _ _ _ _ _ j=>exact key (e':=.d (.sl sz rows)) rfl rfl (.d _ _ j)
 | ref=>cases h
 | Da=>cases h
 | mp=>cases h
 | xl=>cases h
 | agg=>cases h
 | dp=>cases h
 | gd=>cases h
 | vc=>cases h
 | vp=>cases h
 | vw=>cases h
def Bv(place:Nat->Option (Nat×Nat))(env:Env):List D->List (Nat×uH)->Option (List D)
 | cs,[]=>some cs
 | cs,(i,x)::l=>match place i,bp env x with
  | some (off,size),some e=>match cellsD e with
   | some new=>match Nat.beq new.length size,Nat.ble (off+size) cs.length with
    | true,true=>Bv place env (xc cs off new) l
    | _,_=>none
   | none=>none
  | _,_=>none
def sb{g w st env tmps}(he:cT g w st env tmps){place}:∀l cs vs r,Bv place env cs l=some r->Ge g.lim w cs vs ->
  ∃us,Instr.fill place vs (l.map λp=>(p.1,Act.eval ⟨tmps,[]⟩ p.2))=some us/\Ge g.lim w r us/\r.length=cs.length
 | [],cs,vs,r,h,b=>by simp[Bv]at h;subst h;exact⟨vs,rfl,b,rfl⟩
 | (i,x)::l,cs,vs,r,h,b=>by
  unfold Bv at h;split at h
  .rename_i off size e c hx;split at h
   .rename_i new hn;split at h
    .rename_i I E;have h1:=zai I;have h2:=zae E;have H:=iE hn (aq he hx);have a:=b.lay H (off:=off) (by omega);obtain⟨us,k,k2,k3⟩:=sb he l _ _ r h a;refine⟨us,?_,k2,by rw[k3];simp[xc];omega⟩;have hs:=H.1;have d:=b.1;simp only[zbb,Instr.fill,c];rw[zaa (by grind)];exact k
    .cases h
   .cases h
  .cases h
def rn(P:uG)(t:uE):Nat:=match P.info? t with
 | some i=>i.size
 | none=>0
def placeOf(P:uG)(h:uD Field)(i:Nat):= h[i]?.map λf=>(f.offset,rn P f.type)
section rules
variable {P:uG}{f:Ctx}{N:Nat}{S:Start}{Q:EV->St->Prop}{k:List Item}{base:Nat}{env:Env}{st:St}{ops rest:List Oper}
 {d:Option Tmp} {ty:uE} {pos:String} {after:uD Edge} {gd:Option (Nat×Bool)} {t t2 e:uE} {x y:uH}
def ja{inf z}(hi:P.info? t=some inf)(h:inf.zero=some z)(w):(zeroValue t).run P w=.ok z w:=by simp[zeroValue,typeInfo,hi,h]
def xp(H:LQ Field)(h:∀f∈H,(P.info? f.type).isSome)(w):(H.mapM (λf=>do pure (f.offset,←sizeOf f.type):Field->Sem (Nat×Nat))).run P w=.ok (H.map λf=>(f.offset,rn P f.type)) w:=by
 induction H with
 | nil=>rfl
 | cons f H b =>
  obtain⟨i,hi⟩:=zcy.1 (h f (by simp));have a:=b (λg c=>h g (by simp[c]));simp only[List.mapM_cons,Sem.run_bind,cM hi,Result.andThen_ok,Sem.run_pure,a,zbb,rn,hi]
def q_build{h inf z H r l}(ht:P.underlying t=some (.struct h))(hi:P.info? t=some inf)(j:inf.zero=some z)(k:cellsD (.d (cv z))=some H)
  (a:h.toList.all (λf=>(P.info? f.type).isSome)=true) (hl:Bv (placeOf P h) env H l=some r):aG P env st ⟨d,.build t l.toArray,ty,pos,after,gd⟩ (.d (.agg r)):=by
 intro g base w tmps e m;have n:=iE (g:=g) (w:=w) (st:=st) k (.d _ _ (nC _ _ z));obtain⟨us,h1,h2,h3⟩:=sb m l H z.cells r hl n;refine⟨.agg us,.d _ _ (.agg r us h2.1 (λi u b=>?_) λi c u o b=>(h2.2 i c u o b).1),λw' q=>?_⟩
 .have hi':i<r.length:=by rw[←h2.1];grind
  exact(h2.2 i _ u (zaf hi') b).2
 .have K:(h.mapM (λf=>do pure (f.offset,←sizeOf f.type):Field->Sem (Nat×Nat))).run P w'=.ok (h.toList.map λf=>(f.offset,rn P f.type)).toArray w':=by
   rw[←zfz (xs:=h),zev];simp only[Sem.run_map,xp (P:=P) h.toList (λf p=>zbf.1 a f p) w',Result.andThen_ok]
  have G:(λi:Nat=>((h.toList.map λf=>(f.offset,rn P f.type)).toArray)[i]?)=placeOf P h:=by
   funext i;simp[placeOf]
  simp only[execOp,Instr.build,Sem.run_bind,ja hi j,Result.andThen_ok,run_underlying ht,K,zed];rw[G];simp[h1]
def Bw{len sz inf z H rows l}(ht:P.underlying t=some (.slice e))(hi:P.info? e=some inf)(dE:inf.size=sz)(q:inf.zero=some z)(s:z.cells.size=sz)
  (hlen:0<len) (O:len*sz<=16777216) (B:(List.replicate len H).flatten.length=len*sz) (M:cellsD (.d (cv z))=some H)
  (hl:Bv (λi=>some (i*sz,sz)) env (List.replicate len H).flatten l=some rows.flatten) (Q:rows.all (λr=>Nat.beq r.length sz)=true) (hn:rows.length=len) (v:0<sz) :
  zd P env st ⟨d,.buildSlice t len l.toArray,ty,pos,after,gd⟩ (.d (.sl sz rows)):=by
 intro g base w tmps f y;have k:=iE (g:=g) (w:=w) (st:=st) M (.d _ _ (nC _ _ z));have A:H.length=sz:=by rw[←k.1,s]
 have m:∀row∈rows,row.length=sz:=by
  simp_all
 have C:Ge g.lim w (List.replicate len H).flatten ((Array.range (len*sz)).map (z.cells[· % z.cells.size]!)):=by
  refine⟨by simp[B],λi c u D E=>?_⟩;have n:i<len*sz:=by rw[←B];grind
  have R:i % sz<sz:=zdq _ v;have hdiv:i / sz<len:=zdg (by rw[zda];exact n);have F:i=i / sz*sz+i % sz:=by rw[zda];exact(zeg i sz).symm
  have G:=ig (rows:=List.replicate len H) (sz:=sz) (i:=i / sz) (j:=i % sz) (row:=H) (c:=H[i % sz]'(by omega)) (by grind) (by grind) (zaf (by omega));rw[←F,D]at G;have a:H[i % sz]?=some c:=by grind
  have b:z.cells[i % sz]?=some u:=by
   have S:i % sz<z.cells.size:=by omega
   have:((Array.range (len*sz)).map (z.cells[· % z.cells.size]!))[i]?=some (z.cells[i % z.cells.size]!):=by simp[n]
   rw[this]at E
   grind
  exact k.2 _ c u a b
 obtain⟨us,h1,h2,h3⟩:=sb y l _ _ _ hl C;have I:=eK m;obtain⟨J,o,k2,k3⟩:=RT (g:=g) (w:=w) (w0:=w) (sz:=sz) (cap:=len) (rows:=rows) (vs:=us) (e:=e) rfl rfl rfl rfl m (by omega) (by rw[h2.1,I];omega) h2.2;refine .inl ⟨.slice (some ⟨w.heap.size,0,none⟩) len len,J,_,?_,.d _ _ (by rw[hn]at o;exact o),k2,k3⟩;subst dE;have K:¬(16777216<len*inf.size):=by omega
 have T:¬(len=0∨inf.size=0):=by omega
 have L:¬len*inf.size=0:=by
  intro h0;rcases Nat.mul_eq_zero.1 h0 with h|h<;>omega
 have N:Instr.fill (λi=>some (i*inf.size,inf.size)) (Array.map (λx=>z.cells[x % z.cells.size]!) (Array.range (len*inf.size))) (List.map (λp=>(p.1,Act.eval ⟨tmps,[]⟩ p.2)) l)=some us:=h1;simp[execOp,Instr.buildSlice,run_underlying ht,cM hi,K,L,ja hi q,N,newRow]
def bu{inf}(ht:P.underlying t=some (.slice e))(hi:P.info? e=some inf):
  zd P env st ⟨d,.buildSlice t 0 #[],ty,pos,after,gd⟩ (.d (.e0 inf.size)):=by
 intro g base w tmps h H;refine .inl ⟨.slice (some ⟨w.heap.size,0,none⟩) 0 0,λb=>g.lim b,w.alloc (.cells #[] e),?_,.d _ _ (.e0 _ _ (.inr ⟨_,_,rfl⟩)),(Below.refl _ w).alloc (zag _) _,λ_ _=>rfl⟩;simp[execOp,Instr.buildSlice,run_underlying ht,cM hi,newRow,Instr.fill];rw[show Array.map (λ_=>(default:uB)) (Array.range 0)=#[]from by simp_all]
end rules
def tmpsOf:List uH->List Tmp
 | []=>[]
 | .tmp t::l=>t::tmpsOf l
 | _::l=>tmpsOf l
def Gg:Op->List Tmp
 | .move x|.assign x|.box _ x|.load _ x|.nilCheck x|.unOp _ _ x|.convert _ _ x|.sliceToArrayPointer _ x|.makeInterface _ x
 | .makeChan _ x|.fieldAddr _ x _|.field _ x _|.range _ x|.next x _|.entry x|.typeAssert x _ _ _|.extract x _|.panic x|.recv _ x _=>tmpsOf [x]
 | .pick c a b=>tmpsOf [c,a,b]
 | .build _ ps|.buildSlice _ _ ps=>tmpsOf (ps.toList.map (·.2))
 | .store _ a v|.binOp _ _ a v _|.makeSlice _ a v|.indexAddr _ a v|.index _ a v|.lookup _ a v _|.mapEntry _ a v|.send a v=>tmpsOf [a,v]
 | .makeFunc _ first captured=>tmpsOf (first.toList++captured.toList)
 | .makeMap _ r=>tmpsOf r.toList
 | .slice _ x l h m=>tmpsOf (x::(l.toList++h.toList++m.toList))
 | .mapUpdate _ m k v|.entryStore _ m k v|.insert _ m k v=>tmpsOf [m,k,v]
 | .call c=>tmpsOf ((match c.callee with|.value f=>[f]|.invoke r _=>[r]|.builtin _=>[])++c.args.toList)
 | _=>[]
def xr(l:List Oper)(o:Oper):= match o.guard with
 | none=>Gg o.op
 | some (j,_)=>match l[j]?.bind (·.dst)with
  | some t=>t::Gg o.op
  | none=>Gg o.op
def Dm(env:Env):List Tmp->Env
 | []=>[]
 | t::ts=>match lookup t env with
  | some x=>(t,x)::Dm env ts
  | none=>Dm env ts
def jJ(l:List Oper)(o:Oper)(env:Env):= Dm env (xr l o)
def se{env}{t:Tmp}{y}:∀{ts},lookup t (Dm env ts)=some y->t∈ts/\lookup t env=some y
 | [],h=>by simp[Dm,lookup]at h
 | s::ts,h=>by
  unfold Dm at h;split at h
  .rename_i x hx;unfold lookup at h;cases H:Nat.beq t s with
   | true =>
    rw[H]at h;have:=zai H;simp_all
   | false =>
    rw[H]at h;obtain⟨h1,h2⟩:=se h;simp_all
  .obtain⟨h1,h2⟩:=se h;simp_all
def tV(acc:List Nat):List Edge->Nat
 | []=>0
 | e::es=>(if Region.binds .any e then 2 ^ e.on ||| acc.getD e.on 0 else 0) ||| tV acc es
def cn:List Oper->List Nat->List Nat
 | [],acc=>acc
 | o::l,acc=>cn l (acc++[tV acc o.after.toList])
def uQ(listed:uD Bool)(i m:Nat):= listed.getD i false=true->∀j,m.testBit j=true->listed.getD j false=true
def tW(ops:List Oper)(listed:uD Bool):= ∀i o,ops[i]?=some o->listed.getD i false=true->∀e∈o.after,Region.binds .any e=true->listed.getD e.on false=true
def tp{listed acc}(h:∀k m,acc[k]?=some m->uQ listed k m):∀es,(∀e∈es,Region.binds .any e=true->listed.getD e.on false=true)->∀j,(tV acc es).testBit j=true->listed.getD j false=true
 | [],_,j,H=>by simp[tV]at H
 | e::es,he,j,H=>by
  unfold tV at H;rw[Nat.testBit_or,zcj]at H;rcases H with H|H
  .split at H
   .rename_i c;have a:=he e (by simp) c;rw[Nat.testBit_or,zcj]at H;rcases H with H|H
    .rw[Nat.testBit_two_pow]at H;have:e.on=j:=by simp_all
     rw[←this];exact a
    .rw[zbm]at H;cases b:acc[e.on]? with
     | none=>rw[b]at H;simp at H
     | some m=>rw[b]at H;exact h e.on m b a j H
   grind
  .exact tp h es (λe' A=>he e' (by simp[A])) j H
def sf{ops listed}(H:tW ops listed):∀l acc,(∀j:Nat,l[j]?=ops[acc.length+j]?)->(∀k m,acc[k]?=some m->uQ listed k m) ->
  ∀(k) m,(cn l acc)[k]?=some m->uQ listed k m
 | [],acc,_,h=>h
 | o::l,acc,hl,h=>by
  unfold cn;refine sf H l _ (λj=>by have:=hl (j+1);grind) λk m hk=>?_;by_cases b:k<acc.length
  .rw[zaj b]at hk;simp_all
  .have M:=(zad.1 hk).1;simp at M;have:k=acc.length:=by omega
   subst this;have:m=tV acc o.after.toList:=by simp_all
   subst this;intro K;have a:ops[acc.length]?=some o:=by simpa using (hl 0).symm
   exact tp h _ (λe d c=>H _ o a K e (by simp_all) c)
def pr{ops listed}(p:tW ops listed){i o}(f:ops[i]?=some o)(q:∀e∈o.after,Region.binds .any e=true->listed.getD e.on false=true):
  ∀j,((cn ops []).getD i 0).testBit j=true->listed.getD j false=true:=by
 -- list it: the greater set is closed,too,but for i itself: go by the mask's own making
 have key:∀(l:LQ Oper) (acc:LQ Nat),(∀j:Nat,l[j]?=ops[acc.length+j]?)->(∀(k:Nat) m,acc[k]?=some m->uQ listed k m)->(acc.length<=i) ->
   ∃a,(cn l acc)[i]?=some (tV a o.after.toList)/\∀(k:Nat) m,a[k]?=some m->uQ listed k m:=by
  intro l
  induction l with
  | nil =>
   intro acc hl _ H;have:=hl (i-acc.length);rw[show acc.length+(i-acc.length)=i by omega,f]at this
   grind
  | cons o' l v =>
   intro acc hl g H;have w:∀j:Nat,l[j]?=ops[(acc++[tV acc o'.after.toList]).length+j]?:=λj=>by have:=hl (j+1);simpa[zcw,zfi 1 j] using this
   have r:∀(k:Nat) m,(acc++[tV acc o'.after.toList])[k]?=some m->uQ listed k m:=by
    intro k m hk;by_cases s:k<acc.length
    .rw[zaj s]at hk;simp_all
    .have M:=(zad.1 hk).1;simp at M;have:k=acc.length:=by omega
     subst this;have:m=tV acc o'.after.toList:=by simp_all
     subst this;intro K;have b:ops[acc.length]?=some o':=by simpa using (hl 0).symm
     exact tp g _ (λe c d=>p _ o' b K e (by simp_all) d)
   by_cases c:acc.length=i
   .subst c;have b:o'=o:=by
     have:=hl 0;rw[zct,f]at this;simp_all
    subst b;have x:∀(l:LQ Oper) (acc:LQ Nat) (k:Nat) m,acc[k]?=some m->(cn l acc)[k]?=some m:=by
     intro l
     induction l with
     | nil=>intro acc k m h;exact h
     | cons t l u =>
      intro acc k m h;unfold cn
      grind
    refine⟨acc,?_,g⟩;unfold cn;simp_all
   .unfold cn
    grind
 obtain⟨a,h1,h2⟩:=key ops [] (by simp) (by simp) (zdo _);intro j n;rw[zbm,h1,zdr]at n;exact tp h2 _ (λe c d=>q e (by simp_all) d) j n
def oz(n:Nat)(q:Nat->Bool):= (List.range n).all q
def bq{n q}(h:oz n q=true){i}(hi:i<n):q i=true:=by
 unfold oz at h;rw[zbf]at h;simp_all
def bW(l:List Oper)(i:Nat):= l[i]?.bind (·.dst)
def dB(l:List Oper)(p:Nat):=
 let m:=cn l []
 oz p (λi=>match l[i]? with
  | some o=>(xr l o).all λt=>oz p λj=>i==j || bW l j != some t || decide (j<i) && (m.getD i 0).testBit j || decide (i<j) && (m.getD j 0).testBit i
  | none=>true) &&
 oz p (λi=>oz p λj=>i==j || (bW l i).isNone || bW l i != bW l j) &&
 oz l.length (λi=>decide (i<p) || oz i λj=>(m.getD i 0).testBit j) &&
 oz l.length (λi=>match l[i]? with
  | some o=>o.after.toList.all λe=>!Region.binds .any e || decide (e.on<i)
  | none=>true) &&
 decide (p<=l.length)
def uR(P:uG)(l:List Oper)(env:Env)(st:St)(o:Oper)(x:EV):=
 o.guard=none/\zd P env st o x ∨
 ∃(j:Nat) (w:Bool) (t:Tmp) (c:EV) (b:Bool) (y:EV) (env':Env),o.guard=some (j,w)/\l[j]?.bind (·.dst)=some t/\lookup t env=some c/\ED c w=some b/\x=.gd b y/\Bp b env env'/\(b=true->zd P env' st o y)
def eo:Env->List Oper->List EV->Env
 | env,o::os,x::xs=>eo (env.put o.dst x) os xs
 | env,_,_=>env
def By(P:uG)(N:Nat)(l:List Oper)(st:St):List Oper->List EV->Env->Prop
 | [],[],_=>True
 | o::os,x::xs,env=>eE N o.dst=true/\uR P l (jJ l o env) st o x/\By P N l st os xs (env.put o.dst x)
 | _,_,_=>False
def By.length{P N l st}:∀{os xs env},By P N l st os xs env->xs.length=os.length
 | [],[],_,_=>rfl
 | o::os,x::xs,env,h=>by simp[By.length h.2.2]
 | [],x::xs,_,h=>h.elim
 | o::os,[],_,h=>h.elim
def PU{env d x}{s:Tmp}:lookup s (env.put d x)=if d=some s then some x else lookup s env:=by
 cases d with
 | none=>simp[Env.put]
 | some d =>
  simp only[Env.put,lookup];cases h:Nat.beq s d with
  | true=>have:=zai h;simp_all
  | false =>
   have:¬d=s:=by rintro rfl;rw[zef]at h;cases h
   grind
def iF{s:Tmp}{y}:∀{os xs env},xs.length=os.length->lookup s (eo env os xs)=some y ->
  (∃(j:Nat) (o:Oper),os[j]?=some o/\xs[j]?=some y/\o.dst=some s)∨(∀(j:Nat) o,os[j]?=some o->o.dst≠some s)/\lookup s env=some y
 | [],[],env,_,h=>.inr ⟨by simp,h⟩
 | o::os,x::xs,env,hl,h=>by
  rcases iF (os:=os) (xs:=xs) (env:=env.put o.dst x) (by simp_all) h with⟨j,o',h1,h2,h3⟩|⟨h1,h2⟩
  .exact .inl ⟨j+1,o',by simp_all,by simp_all,h3⟩
  .rw[PU]at h2;split at h2
   .rename_i H;cases h2;exact .inl ⟨0,o,rfl,rfl,H⟩
   grind
 | [],_::_,_,hl,_=>by simp at hl
 | _::_,[],_,hl,_=>by simp at hl
def By.get{P N l st}:∀{os xs env i o},By P N l st os xs env->os[i]?=some o ->
  ∃x,xs[i]?=some x/\eE N o.dst=true/\uR P l (jJ l o (eo env (os.take i) (xs.take i))) st o x
 | o'::os,x::xs,env,0,o,h,H=>by
  simp at H;subst H;exact⟨x,rfl,h.1,by simpa[eo] using h.2.1⟩
 | o'::os,x::xs,env,i+1,o,h,H=>by
  obtain⟨y,h1,h2,h3⟩:=By.get (i:=i) h.2.2 (by simpa using H);exact⟨y,by simp_all,h2,by simpa[eo] using h3⟩
 | [],xs,env,i,o,h,H=>by simp at H
 | o'::os,[],_,_,_,h,_=>h.elim
section drawn
variable {P:uG}{f:Ctx}{N:Nat}{S:Start}{Q:EV->St->Prop}{k:List Item}
def yJ{l p}(P:∀i,p<=i->i<l.length->∀j,j<i->((cn l []).getD i 0).testBit j=true)
  (q:∀i o,l[i]?=some o->∀e∈o.after,Region.binds .any e=true->e.on<i) :
  ∀(fuel t m) (listed),p<=m->m<=l.length->l.length-m<=fuel->listed.size=l.length->(∀i,i<l.length->listed.getD i true=decide (i<m)) ->
   Region.linearise.go .any l.toArray fuel t listed []=List.range' m (l.length-m)
 | fuel,t,m,listed,x,hm,y,hs,hl=>by
  have d:∀i,i<l.length->listed.getD i false=decide (i<m):=λi hi=>by
   rw[←hl i hi];simp_all
  have k:tW l listed:=by
   intro i o f U e H c;have hi:=(zad.1 f).1;have:=q i o f e H c;rw[d i hi]at U;rw[d _ (by omega)]
   grind
  have n:Region.ready .any l.toArray listed=if m<l.length then[m]else[]:=by
   have s:∀i,i∈Region.ready .any l.toArray listed↔i=m/\m<l.length:=by
    intro i;rw[mem_ready];constructor
    .rintro⟨h0,o,f,r⟩;have g:l[i]?=some o:=by simp_all
     have hi:=(zad.1 g).1;rw[hl i hi]at h0;have W:m<=i:=by simp_all
     have z:=pr k g (λe H c=>r e H c)
     grind
    .rintro⟨rfl,h⟩;refine⟨by rw[hl i h];simp,l[i],by simp[h],λe H c=>?_⟩
     have:=q i l[i] (zaf h) e H c;rw[d _ (by omega)];simp_all
   have u:(Region.ready .any l.toArray listed).Nodup:=(List.nodup_range).filter _;split
   .rename_i h;have h1:∀i∈Region.ready .any l.toArray listed,i=m:=λi hi=>((s i).1 hi).1
    have h2:m∈Region.ready .any l.toArray listed:=(s m).2 ⟨rfl,h⟩;generalize Region.ready .any l.toArray listed=rs at *
    match rs with
    | []=>cases h2
    | [a]=>rw[h1 a (by simp)]
    | a::b::v =>
     have ha:=h1 a (by simp);have c:=h1 b (by simp);simp_all
   .rename_i h;exact List.eq_nil_iff_forall_not_mem.2 λi hi=>h ((s i).1 hi).2
  cases fuel with
  | zero =>
   have:l.length-m=0:=by omega
   rw[this];rfl
  | succ fuel =>
   have w:((List.range l.toArray.size).filter λi=>!listed.getD i true && ((l.toArray[i]?).map (·.after.all λe=>!Region.binds .any e || listed.getD e.on false)).getD false)=Region.ready .any l.toArray listed:=rfl
   simp only[Region.linearise.go,w,n];by_cases h:m<l.length
   .rw[zab h];simp only[zcm,Nat.mod_one,List.getElem?_cons_zero];rw[linearise_go_acc,yJ P q fuel _ (m+1) _ (by omega) h (by omega) (by simp_all) ?_]
    .have:l.length-m=(l.length-(m+1))+1:=by omega
     rw[this,List.range'_succ];rfl
    .intro i hi;by_cases H:i=m
     .simp_all
     .rw[getD_set_ne true (zcq H),hl i hi];have:(i<m)=(i<m+1):=by grind
      grind
   grind
def PX{l p env st xs}(hp:p<=l.length)
  (hC1:∀i j t,i<p->j<p->i≠j->bW l i=some t->bW l j≠some t)
  (V:∀i o,i<p->l[i]?=some o->∀t∈xr l o,∀j,j<p->j≠i->bW l j=some t->j<i/\((cn l []).getD i 0).testBit j=true∨i<j/\((cn l []).getD j 0).testBit i=true)
  (PV:∀i,p<=i->i<l.length->∀j,j<i->((cn l []).getD i 0).testBit j=true)
  (qZ:∀i o,l[i]?=some o->∀e∈o.after,Region.binds .any e=true->e.on<i)
  (Gh:By P N l st (l.take p) xs env) (Fb:bO P f N S Q l (l.drop p) k (eo env (l.take p) xs) st) :
  ∀(Bz H t) (listed) (g) (w) (tmps),listed.size=l.length->tW l listed->(∀i,p<=i->i<l.length->listed.getD i true=false) ->
   ((List.range p).filter λi=>!listed.getD i true).length=Bz->Bz+(l.length-p)<=H->Inv g S.base w st->rk S g w st->tmps.size=N ->
   (∀s,(∀j x,j<p->listed.getD j false=true->bW l j=some s->xs[j]?=some x->∃v,tmps[s]?=some v/\aY g w st x v) /\
    ((∀j,j<p->listed.getD j false=true->bW l j≠some s)->∀y,lookup s env=some y->∃v,tmps[s]?=some v/\aY g w st y v)) ->
   bT P f (mh S Q) (.inRegion l.toArray (Region.linearise.go .any l.toArray H t listed [])::k) tmps w:=by
 have uP:=Gh.length;have hxl':xs.length=p:=by rw[uP];grind
 intro Bz
 induction Bz with
 | zero =>
  intro H t listed g w tmps hs jF hsu Gi Gj q hh hN I;have jb:∀i,i<p->listed.getD i true=true:=by
   simp_all
  have hgo:=yJ PV qZ H t p listed (zag _) hp (by omega) hs (λi hi=>by
   grind)
  rw[hgo];have Bf:(l.drop p).length=l.length-p:=by simp
  rw[←Bf];have Gk:∀i,i<p->listed.getD i false=true:=λi hi=>by
   have:=jb i hi;have M:i<listed.size:=by omega
   grind
  refine Fb p (λj=>by rw[zbd]) g w tmps q hh (λs y hy=>?_) hN;rcases iF uP hy with⟨j,o,h1,h2,h3⟩|⟨h1,h2⟩
  .have z:j<p:=by have:=(zad.1 h2).1;omega
   have O:l[j]?=some o:=by rw[zah]at h1;rw[zab z]at h1;exact h1
   exact(I s).1 j y z (Gk j z) (by simp[bW,O,h3]) h2
  .refine(I s).2 (λj z _ hd=>?_) y h2;cases O:l[j]? with
   | none=>grind
   | some o=>exact h1 j o (by rw[zah,zab z];exact O) (by simpa[bW,O] using hd)
 | succ Bz ih =>
  intro H t listed g w tmps hs jF hsu Gi Gj q hh hN I;obtain⟨H,rfl⟩:∃n,H=n+1:=⟨H-1,by omega⟩
  -- an operation of the beginning that has not come up
  have hex:∃i,i<p/\listed.getD i true=false:=by
   have:(List.range p).filter (λi=>!listed.getD i true)≠[]:=λh=>by rw[h]at Gi;grind
   simp_all
  have W:∀i,i<l.length->listed.getD i false=listed.getD i true:=λi hi=>by
   have M:i<listed.size:=by omega
   simp_all
  have wM:((List.range l.toArray.size).filter λi=>!listed.getD i true && ((l.toArray[i]?).map (·.after.all λe=>!Region.binds .any e || listed.getD e.on false)).getD false)=Region.ready .any l.toArray listed:=rfl
  -- the least such is ready
  have dz:Region.ready .any l.toArray listed≠[]:=by
   have IQ:∀n i,i<=n->i<p->listed.getD i true=false->∃i,i<p/\listed.getD i true=false/\∀j,j<i->listed.getD j true=true:=by
    intro n
    induction n with
    | zero=>grind
    | succ n ihn =>
     grind
   obtain⟨i0,h0,h1⟩:=hex;obtain⟨i,R,RW,mH⟩:=IQ i0 i0 (zag _) h0 h1;have T:i<l.length:=by omega
   have:i∈Region.ready .any l.toArray listed:=by
    rw[mem_ready];refine⟨RW,l[i],by simp[T],λe J B=>?_⟩;have M:=qZ i l[i] (zaf T) e J B;rw[W _ (by omega)]
    grind
   grind
  simp only[Region.linearise.go,wM];have X:0<(Region.ready .any l.toArray listed).length:=zcn.2 dz;have xq:=zdq t X;generalize hi:(Region.ready .any l.toArray listed)[t % (Region.ready .any l.toArray listed).length]=i;have wN:(Region.ready .any l.toArray listed)[t % (Region.ready .any l.toArray listed).length]?=some i:=by rw[zaf xq,hi]
  rw[wN];simp only[];rw[linearise_go_acc];have Wz:i∈Region.ready .any l.toArray listed:=zav wN;obtain⟨RW,o,O,jb⟩:=mem_ready.1 Wz;have C:l[i]?=some o:=by grind
  have T:=(zad.1 C).1;have sg:=pr jF C (λe J B=>jb e J B);have R:i<p:=by
   grind
  obtain⟨x,hx,hd,Y⟩:=Gh.get (i:=i) (o:=o) (by rw[zah,zab R];exact C);have hgm:=sf jF l [] (by simp) (by simp)
  -- what the operation looks at
  have J:cT g w st (jJ l o (eo env ((l.take p).take i) (xs.take i))) tmps:=by
   intro s y hy;obtain⟨M3,F8⟩:=se hy;rcases iF (by simp[uP]) F8 with⟨j,o',h1,h2,h3⟩|⟨h1,h2⟩
   .have r:j<i:=by have:=(zad.1 h2).1;grind
    have F:l[j]?=some o':=by
     rw[zah,zab r,zah,zab (by omega)]at h1;exact h1
    have D:bW l j=some s:=by simp[bW,F,h3]
    rcases V i o R C s M3 j (by omega) (by omega) D with⟨_,B⟩|⟨M,_⟩
    .exact(I s).1 j y (by omega) (sg j B) D (by rw[zah,zab r]at h2;exact h2)
    .omega
   .refine(I s).2 (λj z E D=>?_) y h2;by_cases r:j=i
    .grind
    .rcases V i o R C s M3 j z r D with⟨M,_⟩|⟨M,B⟩
     .cases F:l[j]? with
      | none=>grind
      | some o'=>exact h1 j o' (by rw[zah,zab M,zah,zab z];exact F) (by simpa[bW,F] using D)
     .have Px:j<l.length:=by omega
      have hmj:(cn l [])[j]?=some ((cn l []).getD j 0):=by
       cases hm:(cn l [])[j]? with
       | none=>rw[zbm,hm]at B;simp at B
       | some m=>rw[zbm,hm];rfl
      have:=hgm j _ hmj E i B;rw[W i T,RW]at this;cases this
  -- what remains behind it
  have Jx:((List.range p).filter λj=>!(listed.setIfInBounds i true).getD j true).length=Bz:=by
   have rp:∀j,(listed.setIfInBounds i true).getD j true=(listed.getD j true || decide (j=i)):=by
    intro j;by_cases r:j=i
    .subst r;simp[zba,hs,T]
    .rw[getD_set_ne true (zcq r)];simp[r]
   have PY:((List.range p).filter λj=>!(listed.setIfInBounds i true).getD j true)=((List.range p).filter λj=>!listed.getD j true).filter λj=>!decide (j=i):=by
    rw[zfj];refine zdx λj _=>?_
    rw[rp j];cases listed.getD j true<;>simp
   rw[PY];have hnd:((List.range p).filter λj=>!listed.getD j true).Nodup:=List.nodup_range.filter _;have s6:i∈(List.range p).filter λj=>!listed.getD j true:=by rw[zcx,List.mem_range];grind
   have Aq:∀(L:LQ Nat),L.Nodup->i∈L->(L.filter λj=>!decide (j=i)).length+1=L.length:=by
    intro L
    induction L with
    | nil=>grind
    | cons a L ihL =>
     intro hn hm;rw[zbz]at hn;by_cases ha:a=i
     .subst ha;have:(L.filter λj=>!decide (j=a))=L:=by
       rw[zdc]
       grind
      rw[zby]
      grind
     grind
   have:=Aq _ hnd s6;omega
  have WA:tW l (listed.setIfInBounds i true):=by
   intro j oj F E e Ah B;by_cases r:j=i
   .subst r;rw[C]at F;cases F;exact getD_set_true (jb e Ah B)
   .rw[getD_set_ne false (zcq r)]at E;exact getD_set_true (jF j oj F E e Ah B)
  have WC:∀j,p<=j->j<l.length->(listed.setIfInBounds i true).getD j true=false:=λj z Px=>by rw[getD_set_ne true (by omega)];grind
  -- the step
  have next:∀(A:Nat->Nat) (w':uC) (v:uB),Good g w st x A w' v ->
    bT P f (mh S Q) (.inRegion l.toArray (Region.linearise.go .any l.toArray H (t / (Region.ready .any l.toArray listed).length) (listed.setIfInBounds i true) [])::k) (Act.put ⟨tmps,[]⟩ o.dst v).tmps w':=by
   rintro A w' v ⟨Dl,B,hl⟩;obtain⟨cG,gW⟩:=q.grow (g':={ g with lim:=A }) B hl rfl rfl;refine ih H _ _ _ w' _ (by grind) WA WC Jx (by omega) cG (hh.step gW) (by rw[fX];exact hN) λs=>⟨λj y z E D hy=>?_,λEJ y hy=>?_⟩
   .by_cases r:j=i
    .subst r;have M4:o.dst=some s:=by simpa[bW,C] using D
     rw[hx]at hy;cases hy;rw[M4];have dE:s<tmps.size:=by
      rw[M4]at hd;have Uo:s+1<=N:=zae hd;rw[hN];exact Uo
     exact⟨v,by simp[Act.put,dE],Dl⟩
    .rw[getD_set_ne false (zcq r)]at E;obtain⟨u,h1,h2⟩:=(I s).1 j y z E D hy;have mJ:o.dst≠some s:=λe=>hC1 j i s z R r D (by simp[bW,C,e])
     refine⟨u,?_,h2.mono gW.cU⟩;cases WD:o.dst with
     | none=>exact h1
     | some d =>
      have:d≠s:=λe=>mJ (by rw[WD,e])
      simp[Act.put,zcv,this,h1]
   .have mJ:o.dst≠some s:=λe=>EJ i R (by simp[zba,hs,T]) (by simp[bW,C,e])
    obtain⟨u,h1,h2⟩:=(I s).2 (λj z E=>EJ j z (by
     by_cases r:j=i
     .grind
     .rw[getD_set_ne false (zcq r)];exact E)) y hy
    refine⟨u,?_,h2.mono gW.cU⟩;cases WD:o.dst with
    | none=>exact h1
    | some d =>
     have:d≠s:=λe=>mJ (by rw[WD,e])
     simp[Act.put,zcv,this,h1]
  have Z:l.toArray[i]?=some o:=O;show bT P f (mh S Q) (.inRegion l.toArray (i::_)::k) tmps w;rcases Y with⟨hg,Y⟩|⟨j,want,tt,c,b,y,env',hg,z,hlk,hgc,rfl,hE,Y⟩
  .have U:Region.wanted o (yielded l.toArray tmps)=true:=by simp[Region.wanted,hg]
   rcases Y g S.base w tmps q J with⟨v,A,w',K,xt⟩|⟨f',args,K,hc⟩
   .exact bT.value Z U K (next A w' v xt)
   .exact bT.call Z U K (hc.mono λe w' ⟨v,A,h1,h2⟩=>⟨v,h1,next A w' v h2⟩)
  .obtain⟨u,hu,hur⟩:=J tt c hlk;have U:Region.wanted o (yielded l.toArray tmps)=b:=by
    rw[←rO hgc hur];have tU:((l.toArray)[j]?).bind (·.dst)=some tt:=by grind
    simp only[Region.wanted,hg,yielded,tU,zac,hu];cases u<;>rfl
   cases b with
   | false=>exact bT.rW Z U (next g.lim w undef ⟨.gd _ _ _ (λ_=>rfl) (λh=>by cases h),.refl _ _,λ_ _=>rfl⟩)
   | true =>
    have G:∀A w' v,Good g w st y A w' v->Good g w st (.gd true y) A w' v:=λA w' v ⟨a,b,c⟩=>⟨.gd _ _ _ (λh=>by cases h) (λ_=>a),b,c⟩
    rcases Y rfl g S.base w tmps q (J.gd hE rfl)with⟨v,A,w',K,xt⟩|⟨f',args,K,hc⟩
    .exact bT.value Z U K (next A w' v (G _ _ _ xt))
    .exact bT.call Z U K (hc.mono λe w' ⟨v,A,h1,h2⟩=>⟨v,h1,next A w' v (G _ _ _ h2)⟩)
def pw(P:uG)(f:Ctx)(N:Nat)(S:Start)(Q:EV->St->Prop)(l:List Oper)(p:Nat)(os:List Oper)(k:List Item)(env:Env)(st:St):=
 ∃xs,By P N l st os xs env/\bO P f N S Q l (l.drop p) k (eo env os xs) st
variable {l:List Oper}{p:Nat}{os:List Oper}{env:Env}{st:St}
def pw.nil(h:bO P f N S Q l (l.drop p) k env st):pw P f N S Q l p [] k env st:=⟨[],trivial,h⟩
def pw.jI{d op ty pos after j want b}{t:Tmp}{c x env'}(H:l[j]?.bind (·.dst)=some t)
  (hl:lookup t (jJ l ⟨some d,op,ty,pos,after,some (j,want)⟩ env)=some c) (a:ED c want=some b) (e:Bp b (jJ l ⟨some d,op,ty,pos,after,some (j,want)⟩ env) env') (g:eE N (some d)=true)
  (h:b=true->zd P env' st ⟨some d,op,ty,pos,after,some (j,want)⟩ x) (hk:pw P f N S Q l p os k ((d,.gd b x)::env) st):pw P f N S Q l p (⟨some d,op,ty,pos,after,some (j,want)⟩::os) k env st:=by
 obtain⟨xs,h1,h2⟩:=hk;exact⟨.gd b x::xs,⟨g,.inr ⟨j,want,t,c,b,x,env',rfl,H,hl,a,rfl,e,h⟩,h1⟩,h2⟩
def aE.drawn{id} p(hm:P.follows .mixedOrders=true)(q:dB l p=true)(h:pw P f N S Q l p (l.take p) k env st):aE P f N S Q (.code (.region id l.toArray true)::k) env st:=by
 obtain⟨xs,G,F⟩:=h;simp only[dB,zam]at q;obtain⟨⟨⟨⟨V,c⟩,d⟩,m⟩,u⟩:=q;have v:p<=l.length:=by simp_all
 intro g w tmps a z A hn;refine bT.vH λt=>?_
 have C:Region.schedule (P.follows .mixedOrders) l.toArray t=Region.linearise .any l.toArray t:=by simp[Region.schedule,hm]
 rw[C];have D:Below w.heap.size w { w with drawn:=w.drawn+1 }:=(Below.refl _ w).drew;obtain⟨E,r⟩:=a.grow (g':=g) D (λ_ _=>rfl) rfl rfl;unfold Region.linearise;refine PX (p:=p) (xs:=xs) v ?_ ?_ ?_ ?_ G F p _ t _ g _ tmps (by simp) ?_ ?_ ?_ ?_ E (z.step r) hn λs=>⟨λj x H B=>?_,λ_ y hy=>?_⟩
 .intro i j t hi H R I J;have:=bq (bq c hi) H;simp_all
 .intro i o hi b t ht j H K J;have h1:=bq V hi;rw[b]at h1;simp only[zbf]at h1;have h2:=bq (h1 t ht) H
  grind
 .intro i hi n j H;have h1:=bq d n;simp only[zcj,zcc]at h1;rcases h1 with h1|h1
  .omega
  .exact bq h1 H
 .intro i o b e L M;have n:=(zad.1 b).1;have h1:=bq m n;rw[b]at h1
  grind
 .intro i o b U;simp[zba,Array.getElem?_replicate]at U;split at U<;>simp_all
 .simp_all
 .have:((List.range p).filter λi=>!(Array.replicate l.toArray.size false).getD i true)=List.range p:=by
   rw[zdc];intro i hi;have hi':=List.mem_range.1 hi;have:i<l.length:=by omega
   simp_all
  rw[this];simp
 .grind
 .simp[zba,Array.getElem?_replicate]at B;split at B<;>simp_all
 .exact(A.mono r.cU) s y hy
end drawn
def IS{n}(h1:-9223372036854775808<=n)(h2:n<=9223372036854775807):IntKind.i64.wrap n=n:=by
 rw[IntKind.wrap_i64];omega
def nF(n m:Nat):EV->Bool
 | .d _=>true
 | .ref o _=>Nat.blt o n
 | .Da o _ _ _=>Nat.blt o n
 | .dA _ _ t=>Nat.blt t m
 | .mp o=>Nat.blt o n
 | .vc t _=>Nat.blt t m
 | .vp t _ _ _=>Nat.blt t m
 | .vw t _ _ _=>Nat.blt t m
 | .xl _ cs=>Gl n m cs
 | .agg cs=>Gl n m cs
 | .dp cs=>Gl n m cs
 | .gd _ x=>nF n m x
where
 Gl (n m):List EV->Bool
 | []=>true
 | x::l=>nF n m x && Gl n m l
def gj{a b}(h:Nat.blt a b=true):a<b:=zae h
def pz{n m}:∀{l},nF.Gl n m l=true->∀(i:Nat) c,l[i]?=some c->nF n m c=true
 | [],_,i,c,h=>by simp at h
 | x::l,H,0,c,h=>by
  simp only[nF.Gl,zam]at H;simp_all
 | x::l,H,i+1,c,h=>by
  simp only[nF.Gl,zam]at H;exact pz H.2 i c (by grind)
def Gm{g w st n m x v}(hn:n<=st.aB.length)(hm:m<=st.ag.length)(H:nF n m x=true)(h:aY g w st x v):aY g w ⟨st.aB.take n,st.ag.take m⟩ x v:=by
 have s:∀{t:Nat} {x:ju},(st.ag.take m)[t]?=some x->st.ag[t]?=some x:=fun {t x} hx=>by
  rw[zah]at hx;simp_all
 induction h with
 | d x v h=>exact .d _ _ h
 | ref o off h=>exact .ref _ _ (by have:=gj H;grind)
 | Da o off l c h=>exact .Da _ _ _ _ (by have:=gj H;grind)
 | dA sz rows t v e k r ht hk hv =>
  have:=gj H;exact .dA sz rows t v e k r (by grind) hk hv
 | mp o h=>exact .mp _ (by have:=gj H;grind)
 | xl f cs vs hs h j =>
  simp only[nF]at H;exact .xl f cs vs hs λi c u a p=>j i c u a p (pz H i c a)
 | agg cs vs hs h1 h j =>
  simp only[nF]at H;exact .agg cs vs hs h1 λi c u a p=>j i c u a p (pz H i c a)
 | dp cs vs hs h j =>
  simp only[nF]at H;exact .dp cs vs hs λi c u a p=>j i c u a p (pz H i c a)
 | gd b x v h0 h j =>
  simp only[nF]at H;exact .gd b x v h0 λy=>j y H
 | vc t k v ht q h=>exact .vc t k v (by have:=gj H;grind) q λx rows hx=>h x rows (s hx)
 | vp t k i off v ht q h=>exact .vp t k i off v (by have:=gj H;grind) q λx rows hx=>h x rows (s hx)
 | vw t k lo n v ht q h=>exact .vw t k lo n v (by have:=gj H;grind) q λx rows hx=>h x rows (s hx)
def gG(n m:Nat):jE->Bool
 | .row _ cs=>cs.all (nF n m)
 | .map es=>es.all λp=>nF n m p.2
 | .raw _=>true
 | .gone=>true
def BA(n m:Nat):Env->Bool
 | []=>true
 | (_,x)::e=>nF n m x && BA n m e
def Dn{n m i y}:∀{env},BA n m env=true->lookup i env=some y->nF n m y=true
 | [],_,h=>by simp[lookup]at h
 | (j,x)::e,H,h=>by
  simp only[BA,zam]at H;unfold lookup at h;cases a:Nat.beq i j with
  | true=>rw[a]at h;simp_all
  | false=>rw[a]at h;exact Dn H.2 h
section drop
variable {P:uG}{f:Ctx}{N:Nat}{S:Start}{Q:EV->St->Prop}{k:List Item}{todo:List Item}{env env':Env}{st st':St}
def Inv.drop{g base w n m}(h:Inv g base w st)(hn:n<=st.aB.length)(hm:m<=st.ag.length)(y:(st.aB.take n).all (gG n m)=true):Inv g base w ⟨st.aB.take n,st.ag.take m⟩:=by
 have z:∀o x,(st.aB.take n)[o]?=some x->st.aB[o]?=some x:=λo x hx=>by
  rw[zah]at hx;split at hx;exact hx;cases hx
 have d:∀t x,(st.ag.take m)[t]?=some x->st.ag[t]?=some x:=λt x hx=>by
  rw[zah]at hx;split at hx;exact hx;cases hx
 have p:∀o x,(st.aB.take n)[o]?=some x->gG n m x=true:=λo x hx=>zbf.1 y x (zav hx)
 have l:∀o,St.live ⟨st.aB.take n,st.ag.take m⟩ o->st.live o:=λo ⟨x,hx,H⟩=>⟨x,z o x hx,H⟩
 refine⟨h.base,λo ty cs hx=>?_,λo es hx=>?_,λo x hx=>h.raw o x (z o _ hx),λo o' H h1 h2=>h.ne o o' H (l _ h1) (l _ h2),λt e sz k hx=>h.tail t e sz k (d t _ hx),λt q x x' b H h1 h2=>h.mo t q x x' b H (d t _ h1) (d q _ h2),λt x o h1 h2=>h.gh t x o (d t _ h1) (l _ h2),h.tS,λt e sz k rows hx=>h.own t e sz k rows (d t _ hx)⟩
 .obtain⟨h1,h2,vs,h3,h4,f⟩:=h.row o ty cs (z o _ hx);have j:=p o _ hx;simp only[gG,zbf]at j;exact⟨h1,h2,vs,h3,h4,λi c u r s=>⟨Gm hn hm (j c (zav r)) (f i c u r s).1,(f i c u r s).2⟩⟩
 .obtain⟨h1,A,c,h3,h4,f,B⟩:=h.map o es (z o _ hx);have j:=p o _ hx;simp only[gG,zbf]at j;exact⟨h1,A,c,h3,h4,λi k x v a b=>⟨(f i k x v a b).1,Gm hn hm (j _ (zav a)) (f i k x v a b).2⟩,B⟩
def rk.drop{S g w n m}(h:rk S g w st)(a:S.st.aB.length<=n)(c:S.st.ag.length<=m)(hn:n<=st.aB.length)(hm:m<=st.ag.length):rk S g w ⟨st.aB.take n,st.ag.take m⟩:=by
 refine⟨⟨h.cU.bp,h.cU.ob,by grind,λt e sz k hk=>?_,by grind,λt x' aT H hx d=>?_⟩,h.below,h.lim,h.frame,λb f i=>h.fresh b f ?_⟩
 .obtain⟨k',h1,h2⟩:=h.cU.ag t e sz k hk;have H:=(zad.1 hk).1
  grind
 .refine h.cU.own t x' aT H ?_ d;rw[zah]at hx;simp_all
 .rcases i with⟨o,⟨x,hx,j⟩,h2⟩|⟨t,x,hx,h2⟩
  .refine .inl ⟨o,⟨x,?_,j⟩,h2⟩;rw[zah]at hx;simp_all
  .refine .inr ⟨t,x,?_,h2⟩;rw[zah]at hx;simp_all
def aE.to(n m)(b:dG env env')(o:st.aB.take n=st'.aB)(ht:st.ag.take m=st'.ag)(hn:Nat.ble n st.aB.length=true)(hm:Nat.ble m st.ag.length=true)(z:(BA n m env' && st'.aB.all (gG n m))=true)
  (c:S.st.aB.length<=n) (d:S.st.ag.length<=m) (h:aE P f N S Q todo env' st'):aE P f N S Q todo env st:=by
 have H:=zae hn;have E:=zae hm;simp only[zam]at z;have e:st'=⟨st.aB.take n,st.ag.take m⟩:=by simp_all
 subst e;intro g w tmps a j k l;refine h g w tmps (a.drop H E z.2) (j.drop (by omega) (by omega) H E) ?_ l
 .intro i y hy;obtain⟨v,h1,h2⟩:=(k.sub b) i y hy;exact⟨v,h1,Gm H E (Dn z.1 hy) h2⟩
theorem dG.nil:dG env []:=trivial
def dG.cons{i x y t}(h:lookup i env=some x)(hle:eB x y)(ht:dG env t):dG env ((i,y)::t):=⟨⟨x,h,hle⟩,ht⟩
def dG.k2{env t:Env}{i h:Nat}{x H:EV}(h0:lookup i env=some x)(h1:lookup h env=some H)(u:dG env t):dG env ((i,x):: (h,H):: t):=.cons h0 (.aW _) (.cons h1 (.aW _) u)
def dG.k3{env t:Env}{i h H:Nat}{x a b:EV}(h0:lookup i env=some x)(h1:lookup h env=some a)(h2:lookup H env=some b)(u:dG env t):dG env ((i,x):: (h,a):: (H,b):: t):=.cons h0 (.aW _) (.cons h1 (.aW _) (.cons h2 (.aW _) u))
def dG.k4{env t:Env}{i h H a:Nat}{x b c d:EV}(h0:lookup i env=some x)(h1:lookup h env=some b)(h2:lookup H env=some c)(h3:lookup a env=some d)(u:dG env t):dG env ((i,x):: (h,b):: (H,c):: (a,d):: t):=.cons h0 (.aW _) (.cons h1 (.aW _) (.cons h2 (.aW _) (.cons h3 (.aW _) u)))
def dG.k5{env t:Env}{i h H a b:Nat}{x c d e f:EV}(h0:lookup i env=some x)(h1:lookup h env=some c)(h2:lookup H env=some d)(h3:lookup a env=some e)(h4:lookup b env=some f)(u:dG env t):dG env ((i,x):: (h,c):: (H,d):: (a,e):: (b,f):: t):=.cons h0 (.aW _) (.cons h1 (.aW _) (.cons h2 (.aW _) (.cons h3 (.aW _) (.cons h4 (.aW _) u))))
def dG.k6{env t:Env}{i h H a b c:Nat}{x d e f g j:EV}(h0:lookup i env=some x)(h1:lookup h env=some d)(h2:lookup H env=some e)(h3:lookup a env=some f)(h4:lookup b env=some g)(k:lookup c env=some j)(u:dG env t):dG env ((i,x):: (h,d):: (H,e):: (a,f):: (b,g):: (c,j):: t):=.cons h0 (.aW _) (.cons h1 (.aW _) (.cons h2 (.aW _) (.cons h3 (.aW _) (.cons h4 (.aW _) (.cons k (.aW _) u)))))
def dG.k7{env t:Env}{i h H a b c d:Nat}{x e f g j k l:EV}(h0:lookup i env=some x)(h1:lookup h env=some e)(h2:lookup H env=some f)(h3:lookup a env=some g)(h4:lookup b env=some j)(m:lookup c env=some k)(n:lookup d env=some l)(u:dG env t):dG env ((i,x):: (h,e):: (H,f):: (a,g):: (b,j):: (c,k):: (d,l):: t):=.cons h0 (.aW _) (.cons h1 (.aW _) (.cons h2 (.aW _) (.cons h3 (.aW _) (.cons h4 (.aW _) (.cons m (.aW _) (.cons n (.aW _) u))))))
end drop
section enter
variable {P:uG}{f:FuncId}{fn:Func}{c:Code}{N:Nat}
def aR.enter'{args q}(H:P.funcs[f]?=some fn)(a:fn.body=some c)(b:fn.ntmps=N)(hl:Nat.ble args.length N=true)
  (h:∀S:Start,S.st=⟨[],[]⟩->aE P (.of f) N S (QD q) [.code c] (vI 0 (args.map EV.d)) ⟨[],[]⟩):aR P f args q :=
 .of (.enter H a b (by simp_all) λS e=>h S e)
end enter
def mapget{α β:Type}{f:α->β}{l:LQ α}{n} d(h:n<l.length):(l.map f)[n]?=some (f (l.getD n d)):=by
 rw[zau,zbm,zaf h];rfl
section q
variable {P:uG}{base:Nat}{env:Env}{st:St}{d:Option Tmp}{ty:uE}{pos:String}{after:uD Edge}{gd:Option (Nat×Bool)}{t t2 e:uE}{x y z:uH}
section int
variable {a b:Int}(hx:bp env x=some (.d (.ex (.int .i64 a))))(hy:bp env y=some (.d (.ex (.int .i64 b))))
include hx hy
theorem sk(h1:-9223372036854775808<=a+b)(h2:a+b<=9223372036854775807):aG P env st ⟨d,.binOp .add t x y t2,ty,pos,after,gd⟩ (.d (.ex (.int .i64 (a+b)))):=q_add hx hy (IS h1 h2)
theorem q_subI(h1:-9223372036854775808<=a-b)(h2:a-b<=9223372036854775807):aG P env st ⟨d,.binOp .sub t x y t2,ty,pos,after,gd⟩ (.d (.ex (.int .i64 (a-b)))):=q_sub hx hy (IS h1 h2)
theorem q_mulI(h1:-9223372036854775808<=a*b)(h2:a*b<=9223372036854775807):aG P env st ⟨d,.binOp .mul t x y t2,ty,pos,after,gd⟩ (.d (.ex (.int .i64 (a*b)))):=q_mul hx hy (IS h1 h2)
end int
def q_idxN{sz rows ev k i}{n:Nat}{row inf}(ht:P.underlying t=some (.slice e))(hi:P.info? e=some inf)(dE:inf.size=sz)
  (hx:bp env x=some ev) (hs:nE ev=some (sz,rows)) (hy:bp env y=some (.d (.ex (.int k i)))) (hn:i=n) (a:rows[n]?=some row) :
  aG P env st ⟨d,.indexAddr t x y,ty,pos,after,gd⟩ (.d (.ro row)):=λg base w tmps h H=>by
 subst hn;obtain⟨b,off,c,hv,f,I⟩:=sl_ro (i7 hs (aq H hx)) a;refine⟨_,.d _ _ I,λw' _=>?_⟩;have:=yG (d:=d) (ty:=ty) (pos:=pos) (after:=after) (gd:=gd) ht hi hv (aq H hy).aO (by omega) (by omega) w';rw[zcl,dE]at this;exact this
def WE{a:LQ uA}{k i}{n:Nat}(ht:P.underlying t=some .string)(hx:bp env x=some (.d (.ex (.string ⟨a.toArray⟩))))(hy:bp env y=some (.d (.ex (.int k i))))(hn:i=n)(b:n<a.length):
  aG P env st ⟨d,.index t x y,ty,pos,after,gd⟩ (.d (.ex (.int .u8 (a.getD n 0).toNat))):=by
 subst hn;exact Wr ht hx hy (by omega) (by rw[zcl,zbm,zaf b];rfl)
def q_lenA{sz rows ev}(ht:P.underlying t=some (.slice e))(hx:bp env x=some ev)(hs:nE ev=some (sz,rows)):
  aG P env st ⟨d,.call ⟨.builtin .len,#[x],#[t]⟩,ty,pos,after,gd⟩ (.d (.ex (.int .i64 rows.length))):=mG λg w tmps w' h=>by
 obtain⟨A,c,hv⟩:=yF (i7 hs (aq h hx));exact Bn ht hv w'
def Up{cs n}(h1:(P.underlying t).map qH=some false)(hs:(P.info? t).map (·.size)=some n)(hx:bp env x=some (.d (.ro cs)))(hn:Nat.beq cs.length n=true):
  aG P env st ⟨d,.load t x,ty,pos,after,gd⟩ (.d (.agg cs)):=by
 have h:=zai hn;have:=RR (d:=d) (ty:=ty) (pos:=pos) (after:=after) (gd:=gd) (st:=st) h1 hs (zex h.symm) hx
 rwa [zbj (by omega)]at this
def q_negI{a}(hx:bp env x=some (.d (.ex (.int .i64 a))))(h1:-9223372036854775807<=a)(h2:a<=9223372036854775807):aG P env st ⟨d,.unOp .neg t x,ty,pos,after,gd⟩ (.d (.ex (.int .i64 (-a)))):=
 q_neg hx (by rw[IS (by omega) (by omega)];omega)
def sn(P:uG)(t:uE):Option (List (Nat×Nat)):=match P.underlying t with
 | some (.struct h)=>if h.toList.all λf=>(P.info? f.type).isSome then some (h.toList.map λf=>(f.offset,rn P f.type))else none
 | _=>none
def sr{ps inf z H r l}(h:sn P t=some ps)(hi:P.info? t=some inf)(a:inf.zero=some z)(k:cellsD (.d (cv z))=some H)
  (hl:Bv (λi=>ps[i]?) env H l=some r):aG P env st ⟨d,.build t l.toArray,ty,pos,after,gd⟩ (.d (.agg r)):=by
 unfold sn at h;split at h
 .rename_i f b;split at h
  .rename_i j;cases h;refine q_build b hi a k j ?_;rw[←hl];congr 1;funext i;simp[placeOf]
  grind
 grind
def pV{sz inf z h r l}(ht:P.underlying t=some (.slice e))(hi:P.info? e=some inf)(dE:inf.size=sz)(j:inf.zero=some z)(k:Nat.beq z.cells.size sz=true)
  (s:Nat.ble sz 16777216=true) (m:Nat.blt 0 sz=true) (M:cellsD (.d (cv z))=some h) (hl:Bv (λi=>some (i*sz,sz)) env h l=some r) :
  zd P env st ⟨d,.buildSlice t 1 l.toArray,ty,pos,after,gd⟩ (.d (.sl sz [r])):=by
 have K:=zai k;have E:=zae s;intro g base w tmps H c;have f:=iE (g:=g) (w:=w) (st:=st) M (.d _ _ (nC _ _ z));have a:h.length=sz:=by rw[←f.1,K]
 have b:r.length=sz:=by
  obtain⟨us,_,_,h3⟩:=sb c l h z.cells r hl f;rw[h3,a]
 have A:(List.replicate 1 h).flatten=h:=by simp
 exact Bw (len:=1) ht hi dE j K (by omega) (by omega) (by rw[A,a];omega) M (by rw[A,hl];simp) (by simp[b]) rfl (gj m) g base w tmps H c
end q
def Inv.Uq{g base w st}(h:Inv g base w st)(e sz:Nat):
  ∃g',g'.tk st.ag.length=.slice (some ⟨w.heap.size,0,none⟩) 0 0/\Inv g' base (w.alloc (.cells #[] e)) (st.tok ⟨e,sz,0,none⟩)/\Step base g w st g' (w.alloc (.cells #[] e)) (st.tok ⟨e,sz,0,none⟩):=by
 obtain⟨g',h1,_,_,h2,h3⟩:=h.tn ⟨e,sz,0,none⟩ (v:=.slice (some ⟨w.heap.size,0,none⟩) 0 0) (xs:=[]) ⟨by simp,.inr ⟨w.heap.size,0,#[],rfl,h.base,heap_alloc_new w _,zag _,by omega,by simp,by simp⟩⟩
  (.inr ⟨rfl,(Below.refl _ w).alloc (zag _) _⟩) (λrows H=>by cases H)
 grind
section rules
variable {P:uG}{base:Nat}{env:Env}{st:St}{d:Option Tmp}{ty:uE}{pos:String}{after:uD Edge}{gd:Option (Nat×Bool)}{t t2 e:uE}{x y z:uH}
def Ur{inf sz}(ht:P.underlying t=some (.slice e))(hi:P.info? e=some inf)(dE:inf.size=sz):
  uL P base env st ⟨d,.buildSlice t 0 #[],ty,pos,after,gd⟩ (.dA sz [] st.ag.length) (st.tok ⟨e,sz,0,none⟩):=by
 intro g w tmps h H;obtain⟨g',h1,h2,h3⟩:=h.Uq e sz;refine⟨_,g',_,?_,.dA sz [] _ (.slice (some ⟨w.heap.size,0,none⟩) 0 0) e 0 (.sl sz [] _ 0 0 (zag _) (by simp) (by simp) (by simp)) (by simp[St.tok]) (zag _) (λ_=>.inl h1.symm),h2,h3⟩;simp[execOp,Instr.buildSlice,run_underlying ht,cM hi,newRow,Instr.fill];rw[show Array.map (λ_=>(default:uB)) (Array.range 0)=#[]from by simp_all]
end rules
def nth{α:Type}[Inhabited α](l:List α)(k:Nat):= l.getD k default
def cV{α}[Inhabited α]{l:LQ α}{k}(h):nth l k=l[k]:=by
 unfold nth;rw[zbm,zaf h];rfl
def Dp{α β:Type}[Inhabited α]{f:α->β}{l n}(h:n<l.length):(l.map f)[n]?=some (f (nth l n)):=mapget default h
def BC{α}[Inhabited α]{l:LQ α}{k}(h:k<l.length):l.take (k+1)=l.take k++[nth l k]:=by
 rw[cV h,List.take_succ_eq_append_getElem h]
def j7{α}[Inhabited α]{l:LQ α}{k}(h:k<l.length):l.drop k=nth l k::l.drop (k+1):=by
 rw[cV h];simp_all
abbrev cI(n:Int):D:=.ex (.int .i64 n)
abbrev cS(l:List uA):D:=.ex (.string ⟨l.toArray⟩)
abbrev cB(b:Bool):D:=.ex (.bool b)
def rI(n:Int):List D:=[.ex (.int .i64 n)]
def rS(l:List uA):List D:=[.ex (.string ⟨l.toArray⟩)]
def eW(b:uA):List D:=[.ex (.int .u8 b.toNat)]
abbrev au{α:Type}(sz:Nat)(row:α->List D)(l:List α):D:=.sl sz (l.map row)
structure BE(P:uG)(key:uE)(κ:Type)[BEq κ][LawfulBEq κ] where
 ke:κ->uB
 kd:TypeDesc
 und:P.underlying key=some kd
 same:∀a b,Instr.sameNow kd (ke a) (ke b)=some (a==b)
 bits:∀a,Instr.sameBits 10000 (ke a) (ke a)=true
 check:∀a b w,(Instr.checkKey b 10000 key (ke a)).run P w=.ok () w
def intKeys{P key}(h:P.underlying key=some (.int .i64)):BE P key Int where
 ke n:=.int .i64 n
 kd:=.int .i64
 und:=h
 same a b:=by simp[Instr.sameNow]
 bits a:=by simp[Instr.sameBits]
 check a b w:=by
  have:∀n,(Instr.checkKey b (n+1) key (.int .i64 a)).run P w=.ok () w:=λn=>by simp[Instr.checkKey,run_underlying h]
  simp_all
def strKeys{P key}(h:P.underlying key=some .string):BE P key (List uA) where
 ke s:=.string ⟨s.toArray⟩
 kd:=.string
 und:=h
 same a b:=by
  simp only[Instr.sameNow];rw[beq_toListBytes];simp
 bits a:=by
  simp only[Instr.sameBits];rw[beq_toListBytes];simp
 check a b w:=by
  have:∀n,(Instr.checkKey b (n+1) key (.string ⟨a.toArray⟩)).run P w=.ok () w:=λn=>by simp[Instr.checkKey,run_underlying h]
  simp_all
section alist
variable {κ α:Type}[BEq κ][LawfulBEq κ]
def dL(l:List (κ×α))(k:κ):= l.findIdx? λp=>k==p.1
def ak(l:List (κ×α))(k:κ):= (l.find? λp=>k==p.1).map (·.2)
def cQ(l:List (κ×α))(k:κ)(v:α):List (κ×α):=match dL l k with
 | some j=>l.set j (k,v)
 | none=>l++[(k,v)]
theorem Us(k):ak ([]:LQ (κ×α)) k=none:=rfl
def kR(l:LQ (κ×α))(k):ak l k=(dL l k).bind λj=>l[j]?.map (·.2):=by
 induction l with
 | nil=>rfl
 | cons p l i =>
  unfold ak dL at *;rw[List.find?_cons,List.findIdx?_cons];by_cases h:k==p.1
  .simp[h]
  .simp only[h,zay,zbq]at *;rw[i];cases List.findIdx? (λp=>k==p.fst) l<;>simp
def eC l(k k':κ)(v:α):ak (cQ l k v) k'=if k'==k then some v else ak l k':=by
 induction l with
 | nil =>
  unfold cQ dL ak;by_cases h:k'==k<;>simp[List.find?_cons,h]
 | cons p l i =>
  unfold cQ dL at *;rw[List.findIdx?_cons];by_cases h:k==p.1
  .simp only[h,zce,List.set_cons_zero];have hk:k=p.1:=eq_of_beq h;unfold ak;rw[List.find?_cons,List.find?_cons]
   grind
  .simp only[h,zay,zbq];have H:ak ((match Option.map (λx=>x+1) (List.findIdx? (λp=>k==p.1) l)with
     | some j=>(p::l).set j (k,v)
     | none=>(p::l)++[(k,v)])) k'=if k'==p.1 then some p.2 else ak (match List.findIdx? (λp=>k==p.1) l with
     | some j=>l.set j (k,v)
     | none=>l++[(k,v)]) k':=by
    cases List.findIdx? (λp=>k==p.1) l with
    | none =>
     simp only[Option.map_none,List.cons_append];unfold ak;rw[List.find?_cons];by_cases h2:k'==p.1<;>simp[h2]
    | some j =>
     simp only[Option.map_some,List.set_cons_succ];unfold ak;rw[List.find?_cons];by_cases h2:k'==p.1<;>simp[h2]
   refine H.trans ?_;rw[i];by_cases h2:k'==p.1
   .have hk:k'=p.1:=eq_of_beq h2;have h3:(k'==k)=false:=by
     rw[hk];rw[Bool.eq_false_iff]
     grind
    simp[h2,h3,ak,List.find?_cons]
   .by_cases h3:k'==k
    .grind
    .simp[h2,h3,ak,List.find?_cons]
end alist
def iP{κ α:Type}(ke:κ->uB)(val:α->D)(l:List (κ×α)):List (uB×EV):=l.map λp=>(ke p.1,.d (val p.2))
section find
variable {P:uG}{key:uE}{κ α:Type}[BEq κ][LawfulBEq κ](K:BE P key κ)
theorem Gn(k):∀(l:LQ (κ×α)) ms i,ms.map (·.key)=l.map (λp=>K.ke p.1) ->
  Instr.findNow K.kd (K.ke k) ms i=some ((dL l k).bind λj=>ms[j]?.map λm=>(i+j,m.val))
 | [],[],i,_=>rfl
 | [],m::ms,i,h=>by simp at h
 | p::l,[],i,h=>by simp at h
 | p::l,m::ms,i,h=>by
  simp only[zbb,List.cons.injEq]at h;unfold Instr.findNow;rw[h.1,K.same];by_cases hk:k==p.1
  .simp[hk,dL,List.findIdx?_cons]
  .have H:(k==p.1)=false:=by simp_all
   rw[H];simp only[];rw[Gn k l ms (i+1) h.2];unfold dL;rw[List.findIdx?_cons,H];simp only[zay,zbq];cases List.findIdx? (λp=>k==p.1) l with
   | none=>rfl
   | some j =>
    grind
theorem M5 k{l:LQ (κ×α)}{ms}(h:ms.map (·.key)=l.map λp=>K.ke p.1) w:
  (Instr.findKey key (K.ke k) ms).run P w=.ok ((dL l k).bind λj=>ms[j]?.map λm=>(j,m.val)) w:=by
 simp only[Instr.findKey,Sem.run_bind,run_underlying K.und,Result.andThen_ok,Gn K k l ms 0 h,Sem.run_pure,zbh]
end find
def xu{κ α}[BEq κ]{l:LQ (κ×α)}{k j}(h:dL l k=some j):j<l.length:=by
 unfold dL at h;rw[List.findIdx?_eq_some_iff_getElem]at h;exact h.1
section rules
variable {P:uG}{base:Nat}{env:Env}{st:St}{d:Option Tmp}{ty:uE}{pos:String}{after:uD Edge}{gd:Option (Nat×Bool)}{t t2 e key:uE}{x y z:uH}
 {κ α:Type} [BEq κ] [LawfulBEq κ]
def WG{g w st l}{ke:κ->uB}{val:α->D}{H:uD MapEntry}(hl:H.size=(iP ke val l).length)
  (h:∀(i:Nat) k x m,(iP ke val l)[i]?=some (k,x)->H[i]?=some m->m.key=k/\aY g w st x m.val):H.toList.map (·.key)=l.map λp=>ke p.1:=by
 apply zbv;intro i;rw[zau,zau];have a:H.size=l.length:=by simpa[iP] using hl
 by_cases hi:i<l.length
 .have h1:H[i]?=some (H[i]'(by omega)):=zbl (by omega);have h2:l[i]?=some l[i]:=zaf hi;have h3:=(h i (ke l[i].1) (.d (val l[i].2)) _ (by simp[iP,h2]) h1).1;rw[h2,zcf,h1];simp[h3]
 simp_all
def kf:uL P base env st ⟨d,.makeMap t none,ty,pos,after,gd⟩ (.mp st.aB.length) (st.add (.map [])):=by
 intro g w tmps h H;obtain⟨g',hi,hs,z⟩:=h.newObj (.map []) (.map #[] 0) (λK v e=>by cases e) (λes e=>by simp_all);refine⟨.map (some w.heap.size),g',_,?_,?_,hi,hs⟩
 .simp[execOp,Instr.makeMap]
 .rw[←z];exact .mp _ (by simp[St.add])
end rules
inductive FK where
 | i (k:IntKind)
 | b
 | s
def IU:Option TypeDesc->Option FK
 | some (.int k)=>some (.i k)
 | some .bool=>some .b
 | some .string=>some .s
 | _=>none
def mq:FK->uB->Bool
 | .i k,.int k' _=>decide (k=k')
 | .b,.bool _=>true
 | .s,.string _=>true
 | _,_=>false
def V5:uB->uB->Bool
 | .int _ a,.int _ b=>a==b
 | .bool a,.bool b=>a==b
 | .string a,.string b=>a.toList==b.toList
 | _,_=>false
def jy:List uB->List uB->Bool
 | [],[]=>true
 | x::xs,y::ys=>V5 x y && jy xs ys
 | _,_=>false
def fitAll:List FK->List uB->Bool
 | [],[]=>true
 | k::ks,v::vs=>mq k v && fitAll ks vs
 | _,_=>false
def qs(P:uG):Nat->List Field->Option (List FK)
 | _,[]=>some []
 | n,f::h=>match Nat.beq f.offset n,decide (f.name ≠ "_"),IU (P.underlying f.type),qs P (n+1) h with
  | true,true,some k,some ks=>some (k::ks)
  | _,_,_,_=>none
def jd(P:uG)(t:uE):Option (List FK):=match P.underlying t with
 | some (.struct f)=>if P.stoodInHeld t || P.eqGuardType P.depth t then none else qs P 0 f.toList
 | _=>none
section eq
variable {P:uG}
def uS{t k}(h:IU (P.underlying t)=some k){cs off v}(hv:cs[off]?=some v)(w):(part t cs off).run P w=.ok v w:=by
 have h1:(P.underlying t).map qH=some true:=by
  cases H:P.underlying t with
  | none=>rw[H]at h;cases h
  | some a=>rw[H]at h;cases a<;>first|rfl|cases h
 simp[part,uM h1,hv]
def xv{t k}(h:IU (P.underlying t)=some k){x y}(hx:mq k x=true)(hy:mq k y=true) n(w):(Op.equalIn (n+1) t x y).run P w=.ok (V5 x y) w:=by
 cases H:P.underlying t with
 | none=>rw[H]at h;cases h
 | some a =>
  rw[H]at h;cases a<;>simp only[IU,Option.some.injEq,reduceCtorEq]at h
  .subst h;cases x<;>simp only[mq,zay]at hx;cases y<;>simp only[mq,zay]at hy;exact run_equalIn_bool' w n t _ _ H
  .subst h;cases x<;>simp only[mq,zay]at hx;cases y<;>simp only[mq,zay]at hy;have e:=zbk hx;have b:=zbk hy;rw[←e,←b];exact run_equalIn_int w n t _ _ _ _ H
  .subst h;cases x<;>simp only[mq,zay]at hx;cases y<;>simp only[mq,zay]at hy;exact run_equalIn_string w n t _ _ H
def zM n(w):∀H k ks (xs ys) (X Y),qs P k H=some ks->fitAll ks xs=true->fitAll ks ys=true ->
  (∀j v,xs[j]?=some v->X[k+j]?=some v)->(∀j v,ys[j]?=some v->Y[k+j]?=some v)->(Op.eqFields (n+1) X Y H).run P w=.ok (jy xs ys) w
 | [],k,ks,xs,ys,X,Y,h,hx,hy,_,_=>by
  simp only[qs,Option.some.injEq]at h;subst h
  match xs,ys with
  | [],[]=>rfl
  | _::_,_=>cases hx
  | [],_::_=>cases hy
 | f::H,k,ks,xs,ys,X,Y,h,hx,hy,b,c=>by
  unfold qs at h;split at h
  .rename_i kk a h1 h2 h3 h4;simp only[Option.some.injEq]at h;subst h
   match xs,ys with
   | [],_=>cases hx
   | _::_,[]=>cases hy
   | x::xs,y::ys =>
    simp only[fitAll,zam]at hx hy;have d:=zai h1;have R:f.name ≠ "_" := zbk h2;have p:=uS h3 (cs:=X) (off:=f.offset) (b 0 x rfl |> λh=>by rw[d];omega) w;have e:=uS h3 (cs:=Y) (off:=f.offset) (c 0 y rfl |> λh=>by rw[d];omega) w;have pe:=xv h3 hx.1 hy.1 n w;have i:=zM n w H (k+1) a xs ys X Y h4 hx.2 hy.2 (λj v hv=>by have:=b (j+1) v (by simp_all);rwa [show k+1+j=k+(j+1) by omega]) (λj v hv=>by have:=c (j+1) v (by simp_all);rwa [show k+1+j=k+(j+1) by omega]);simp only[Op.eqFields,zab R,Sem.run_bind,p,e,pe,Result.andThen_ok,Sem.run_ite,jy];cases V5 x y
    .rfl
    simp_all
  .cases h
def RZ{t ks}(h:jd P t=some ks){xs ys}(hx:fitAll ks xs=true)(hy:fitAll ks ys=true) w op(x y):
  (eqGuard op t x y (.agg xs.toArray) (.agg ys.toArray)).run P w=.ok () w/\(Op.equalIn 10000 t (.agg xs.toArray) (.agg ys.toArray)).run P w=.ok (jy xs ys) w:=by
 unfold jd at h;split at h
 .rename_i f a;split at h
  .cases h
  .rename_i E;simp only[zcj,not_or,Bool.not_eq_true]at E;have H:P.fieldsOf t=f:=by simp[Program.fieldsOf,a]
   refine⟨run_eqGuard_agg w op t x y _ _ E.2,?_⟩;rw[run_equalIn_struct w 9999 t _ _ (by rw[H];exact a) E.1,H];exact zM 9998 w f.toList 0 ks xs ys _ _ h hx hy (λj v hv=>by simp_all) (λj v hv=>by simp_all)
 .cases h
end eq
def kC{lim w u v}(h:cq lim w (.ex u) v):v=u:=by cases h;rfl
def exs:List D->Option (List uB)
 | []=>some []
 | .ex v::l=>match exs l with
  | some r=>some (v::r)
  | none=>none
 | _::_=>none
def R0:∀{l vs},exs l=some vs->l=vs.map D.ex
 | [],vs,h=>by simp[exs]at h;grind
 | .ex v::l,vs,h=>by
  unfold exs at h;split at h
  .rename_i r H;simp only[Option.some.injEq]at h;subst h;rw[R0 H];rfl
  .cases h
 | .agg _::l,vs,h=>by cases h
 | .dp _::l,vs,h=>by cases h
 | .sl _ _::l,vs,h=>by cases h
 | .ro _::l,vs,h=>by cases h
 | .e0 _::l,vs,h=>by cases h
 | .any::l,vs,h=>by cases h
def yK{lim w cs vs v}(h:exs cs=some vs)(H:cq lim w (.agg cs) v):v=.agg vs.toArray:=by
 have a:=R0 h;subst a;cases H with
 | agg _ us hs _ b =>
  congr 1;apply Array.ext';apply zbv;intro i;simp only[zcb]at hs;by_cases hi:i<vs.length
  .have h1:us[i]?=some (us[i]'(by omega)):=zbl (by omega);have h2:=b i (.ex vs[i]) _ (by rw[zau,zaf hi];rfl) h1;rw[zcf,h1,zaf hi,kC h2]
  simp_all
section rules
variable {P:uG}{f:Ctx}{N:Nat}{S:Start}{Q:EV->St->Prop}{k:List Item}{base:Nat}{env:Env}{st:St}{ops rest:List Oper}{d:Option Tmp}{ty:uE}{pos:String}{after:uD Edge}{gd:Option (Nat×Bool)}{t t2 e:uE}{x y z:uH}
section steq
variable {ks:List FK}{cs ds:List D}{xs ys:List uB}(hk:jd P t=some ks)(hx:bp env x=some (.d (.agg cs)))(hy:bp env y=some (.d (.agg ds)))(h1:exs cs=some xs)(h2:exs ds=some ys)(h3:fitAll ks xs=true)(h4:fitAll ks ys=true)
include hk hx hy h1 h2 h3 h4
theorem R4:aG P env st ⟨d,.binOp .eql t x y t2,ty,pos,after,gd⟩ (.d (.ex (.bool (jy xs ys)))):=mG λg w tmps w' H=>by
 obtain⟨k,k2⟩:=RZ hk h3 h4 w' .eql x y;have e:Act.eval ⟨tmps,[]⟩ x=.agg xs.toArray:=by cases aq H hx with|d _ _ h=>exact yK h1 h
 have a:Act.eval ⟨tmps,[]⟩ y=.agg ys.toArray:=by cases aq H hy with|d _ _ h=>exact yK h2 h
 simp only[execOp,e,a,Sem.run_bind,k,Result.andThen_ok,run_eql_struct,k2,Sem.run_pure]
end steq
def vM{f' l es}(h:y0 env l=some es):aG P env st ⟨d,.makeFunc (.func f') #[] l.toArray,ty,pos,after,gd⟩ (.xl f' es):=by
 intro g base w tmps H a;obtain⟨k,k2⟩:=uN a l es h;refine⟨.func (.func f') #[] (l.map (Act.eval ⟨tmps,[]⟩)).toArray,.xl f' es _ (by simp[k]) (λi c u b e=>k2 i c u b (by simp_all)),λw' _=>?_⟩;simp[execOp,Instr.makeFunc]
def foldl_push:∀(l:LQ uA) (b:ByteArray),(l.map λb=>(b.toNat:Int)).foldl (λr n=>r.push (UInt8.ofNat n.toNat)) b=⟨b.data++l.toArray⟩
 | [],b=>by simp
 | c::l,b=>by
  rw[zbb,zfg,foldl_push l];have:UInt8.ofNat (c.toNat:Int).toNat=c:=by simp
  rw[this];simp_all
def tq{w A c l}(h:A=none->l=[])(H:∀a,A=some a->(loadCells a l.length).run P w=.ok (l.map λb=>Value.int .u8 b.toNat).toArray w):
  (Conv.bytesToString (.slice A l.length c)).run P w=.ok (.string ⟨l.toArray⟩) w:=by
 cases A with
 | none =>
  have:=h rfl;subst this;rfl
 | some a =>
  have h1:=run_bytesToString (P:=P) w a l.length c (l.map λb=>(b.toNat:Int)) (by rw[H a rfl];simp_all);rw[h1,foldl_push];simp_all
def P0{ev l}(hs:P.underlying t=some (.slice e))(m:P.underlying e=some (.int .u8))(o:P.underlying t2=some .string)(hx:bp env x=some ev)(M:nE ev=some (1,xm l)):
  aG P env st ⟨d,.convert t t2 x,ty,pos,after,gd⟩ (.d (.ex (.string ⟨l.toArray⟩))):=λg base w tmps h q=>by
 refine⟨_,.d _ _ (.ex _),λw' r=>?_⟩;obtain⟨A,c,vs,hv,hl,H,I,f,s,i⟩:=Jv (i7 M (aq q hx));have hlen:(xm l).length=l.length:=by simp[xm]
 have v:vs=l.map λb=>Value.int .u8 (b.toNat:Int):=by
  apply zbv;intro j;have y:(xm l).flatten=l.map λb=>D.ex (.int .u8 (b.toNat:Int)):=by
   unfold xm;clear i s f I H hl hv M hlen
   induction l with
   | nil=>rfl
   | cons a l z=>simp[z]
  by_cases k:j<l.length
  .have h1:vs[j]?=some (vs[j]'(by omega)):=zaf (by omega);have h2:=(i j _ (.ex (.int .u8 ((l[j]).toNat:Int))) h1 (by rw[y,zau,zaf k];rfl)).1;rw[h1,zau,zaf k,kC h2];rfl
  simp_all
 rw[hlen]at hv;simp only[execOp,hv,Sem.run_bind,run_convert_bytes_string w' t t2 e A l.length c hs m o];rw[tq (λh0=>by have:=(I h0).1;rw[hlen]at this;simp_all) (λa ha=>?_)]
 .rfl
 .rcases H with h0|⟨b,off,p⟩
  .rw[hlen]at h0;have:l=[]:=zax h0;subst this;simp[loadCells,loadCellsFrom]
  .rw[ha]at p;cases p;have:=kb (P:=P) (w:=w') (b:=b) (off:=off) (n:=l.length) (vs:=vs) (by rw[hl,hlen];omega) (λj u B=>by
    have h3:=f b off ha j u B;exact(r.cell (World.block_lt_of_cell? w _ h3)).trans h3)
   rw[this,v]
def gH{o off n k i}{m sz:Nat}(ht:P.underlying t=some (.array n e))(hi:∃inf,P.info? e=some inf/\inf.size=sz)(hx:bp env x=some (.ref o off))(hy:bp env y=some (.d (.ex (.int k i))))(hm:i=m)(b:m<n):
  aG P env st ⟨d,.indexAddr t x y,ty,pos,after,gd⟩ (.ref o (off+m*sz)):=λg base w tmps H a=>by
 subst hm;obtain⟨inf,hi,rfl⟩:=hi;have h:=aq a hx;generalize hv:Act.eval ⟨tmps,[]⟩ x=v at h;have V:=(aq a hy).aO;cases h with
 | ref _ _ r =>
  refine⟨.pointer (some ⟨g.ob o,off+m*inf.size,none⟩),.ref _ _ r,λw' _=>?_⟩;simp[execOp,hv,V,Instr.indexAt,asIntOf,run_underlying ht,Instr.sureAddr,sizeOf,typeInfo,hi,b,Addr.add_lit]
end rules
section rules
variable {P:uG}{f:Ctx}{N:Nat}{S:Start}{Q:EV->St->Prop}{k:List Item}{base:Nat}{env:Env}{st:St}{ops rest:List Oper}{d:Option Tmp}{ty:uE}{pos:String}{after:uD Edge}{gd:Option (Nat×Bool)}{t t2 e:uE}{x y z:uH}
def WH{n m:Nat}{inf cs c k i}(ht:P.underlying t=some (.array n e))(h1:(P.underlying e).map qH=some true)(hi:P.info? e=some inf)(hs:inf.size=1)
  (hx:bp env x=some (.d (.agg cs))) (hy:bp env y=some (.d (.ex (.int k i)))) (hm:i=m) (f:m<n) (j:cs[m]?=some c) :
  aG P env st ⟨d,.index t x y,ty,pos,after,gd⟩ (.d c):=λg base w tmps a b=>by
 subst hm;have h:=aq b hx;generalize hv:Act.eval ⟨tmps,[]⟩ x=v at h;have V:=(aq b hy).aO;cases h with
 | d _ _ h =>
  cases h with
  | agg _ us dE l o =>
   have r:m<us.size:=by rw[dE];grind
   have p:us[m]?=some us[m]:=zbl r;refine⟨us[m],.d _ _ (o m c _ j p),λw' q=>?_⟩;have H:=uM (P:=P) h1 w';simp[execOp,hv,V,Instr.index,asIntOf,run_underlying ht,sizeOf,typeInfo,hi,hs,f,part,H,r]
def nG{n sz inf ie z h r l}(ht:P.underlying t=some (.array n e))(hi:P.info? t=some inf)(f:inf.zero=some z)(j:P.info? e=some ie)(U:ie.size=sz)(k:cellsD (.d (cv z))=some h)
  (hl:Bv (λi=>some (i*sz,sz)) env h l=some r):aG P env st ⟨d,.build t l.toArray,ty,pos,after,gd⟩ (.d (.agg r)):=by
 intro g base w tmps b m;have o:=iE (g:=g) (w:=w) (st:=st) k (.d _ _ (nC _ _ z));obtain⟨us,h1,h2,h3⟩:=sb m l h z.cells r hl o;refine⟨.agg us,.d _ _ (.agg r us h2.1 (λi u H=>?_) λi c u p H=>(h2.2 i c u p H).1),λw' q=>?_⟩
 .have hi':i<r.length:=by rw[←h2.1];grind
  exact(h2.2 i _ u (zaf hi') H).2
 .subst U;have a:(sizeOf e:Sem Nat).run P w'=.ok ie.size w':=by simp[sizeOf,typeInfo,j]
  simp only[execOp,Instr.build,Sem.run_bind,ja hi f,Result.andThen_ok,run_underlying ht,zed,a];rw[h1];simp
def vN(x y:D):= ∀lim w v,cq lim w x v->cq lim w y v
def vN.aW(x):vN x x:=λ_ _ _ h=>h
def vN.nil(sz):vN (.ex (.slice none 0 0)) (.sl sz []):=λ_ _ _ h=>by cases h;exact .nil sz _
def Fc:List D->List D->Prop
 | [],[]=>True
 | x::xs,y::ys=>vN x y/\Fc xs ys
 | _,_=>False
def Fc.get:∀{xs ys},Fc xs ys->xs.length=ys.length/\∀(i:Nat) y,ys[i]?=some y->∃x,xs[i]?=some x/\vN x y
 | [],[],_=>⟨rfl,λi y h=>by simp at h⟩
 | x::xs,y::ys,h=>by
  obtain⟨h1,h2⟩:=Fc.get h.2;refine⟨by simp[h1],λi z H=>?_⟩;cases i with
  | zero=>simp at H;subst H;exact⟨x,rfl,h.1⟩
  | succ i=>simp_all
 | [],_::_,h=>h.elim
 | _::_,[],h=>h.elim
def vN.agg{xs ys}(h:Fc xs ys):vN (.agg xs) (.agg ys):=by
 intro lim w v hv;obtain⟨h1,h2⟩:=h.get;cases hv with
 | agg _ vs hs a b =>
  refine .agg _ vs (by rw[hs,h1]) a λi c u hi d=>?_
  obtain⟨x,hx,H⟩:=h2 i c hi;exact H lim w u (b i x u hx d)
def M6:List (List D)->List (List D)->Prop
 | [],[]=>True
 | x::xs,y::ys=>Fc x y/\M6 xs ys
 | _,_=>False
def M6.get:∀{xs ys},M6 xs ys->xs.length=ys.length/\∀(i:Nat) y,ys[i]?=some y->∃x,xs[i]?=some x/\Fc x y
 | [],[],_=>⟨rfl,λi y h=>by simp at h⟩
 | x::xs,y::ys,h=>by
  obtain⟨h1,h2⟩:=M6.get h.2;refine⟨by simp[h1],λi z H=>?_⟩;cases i with
  | zero=>simp at H;subst H;exact⟨x,rfl,h.1⟩
  | succ i=>simp_all
 | [],_::_,h=>h.elim
 | _::_,[],h=>h.elim
def vN.sl{sz xs ys}(h:M6 xs ys):vN (.sl sz xs) (.sl sz ys):=by
 intro lim w v hv;obtain⟨h1,h2⟩:=h.get;cases hv with
 | nil =>
  have:ys=[]:=zax (by rw[←h1];rfl);subst this;exact .nil sz _
 | sl _ _ b off cap a o hx e =>
  rw[h1];refine .sl sz ys b off cap (by rw[←h1];exact a) (λrow g=>?_) (λk hk=>hx k (by rw[h1];exact hk)) λi j row c u hi f l=>?_
  .obtain⟨i,hi⟩:=zcr.1 g;obtain⟨x,m,H⟩:=h2 i row hi;rw[←H.get.1]
   grind
  .obtain⟨x,m,H⟩:=h2 i row hi;obtain⟨d,n,hl⟩:=H.get.2 j c f;exact hl lim w u (e i j x d u m n l)
end rules
def ck{α:Type} p[Decidable p](k:Option α):= if p then k else none
def iS{α p}[Decidable p]{k}{r:α}(h:ck p k=some r):p/\k=some r:=by
 unfold ck at h;simp_all
abbrev cR(x:Int):= -9223372036854775808<=x/\x<=9223372036854775807
theorem ae{α p}[Decidable p]{k:LX α}(h:p):ck p k=k:=zab h
def fH{α:Type}[Inhabited α](b:Bool)(o:Option α):= if b then o else some default
def P4{α}[Inhabited α]{b o}{y:α}(h:fH b o=some y):b=true->o=some y:=λH=>by
 rw[fH,zab H]at h;exact h
def P5{α β:Type}{o}{k:α->LX β}{r}(h:o.bind k=some r):∃y,o=some y/\k y=some r:=by
 cases o with
 | none=>cases h
 | some y=>simp_all
theorem Uu{α β:Type}{o}{k:α->β}{r}(h:o.map k=some r):∃y,o=some y/\k y=r:=by
 simp_all
def ifT{α:Type}{b x y}{r:α}(H:b=true)(h:(if b then x else y)=some r):x=some r:=by rw[zab H]at h;exact h
def ifF{α:Type}{b x y}{r:α}(H:b=false)(h:(if b then x else y)=some r):y=some r:=by rw[zaa (by rw[H];simp_all)]at h;exact h
def iter{S R:Type}(step:S->Option (S ⊕ R)):Nat->S->Option R
 | 0,_=>none
 | n+1,s=>match step s with
  | none=>none
  | some (.inl h)=>iter step n h
  | some (.inr r)=>some r
def loop{S R}(step:S->Option (S ⊕ R))(s:S):= iter step 18446744073709551616 s
def Uv{S R step}{s:S}{r:R}(h:loop step s=some r):∃n,iter step n s=some r:=⟨_,h⟩
def Kof{S R}(step:S->Option (S ⊕ R))(n:Nat)(ρ:R):S ⊕ R->Prop
 | .inl s=>iter step n s=some ρ
 | .inr r=>r=ρ
def Uw{S R step n}{s:S}{ρ:R}(h:iter step n s=some ρ):∃m q,m<n/\step s=some q/\Kof step m ρ q:=by
 cases n with
 | zero=>cases h
 | succ m =>
  unfold iter at h;split at h
  .cases h
  .rename_i H hs;exact⟨m,_,zdf _,hs,h⟩
  .rename_i r hs;cases h;exact⟨m,_,zdf _,hs,rfl⟩
def dM{S R step}(F:S->LX R)(I:S->Prop)(μ:S->Nat)
  (h:∀s,I s->(∃r,step s=some (.inr r)/\F s=some r)∨∃H,step s=some (.inl H)/\I H/\μ H<μ s/\F H=F s) {s} (a:I s) (b:μ s<18446744073709551616):loop step s=F s:=by
 have key:∀n s,I s->μ s<n->∃r,iter step n s=some r/\F s=some r:=by
  intro n
  induction n with
  | zero=>omega
  | succ n i =>
   intro s a hn;rcases h s a with⟨r,h1,h2⟩|⟨H,h1,h2,h3,h4⟩
   .exact⟨r,by unfold iter;rw[h1],h2⟩
   .obtain⟨r,k,k2⟩:=i H h2 (by omega);exact⟨r,by unfold iter;rw[h1];exact k,by rw[←h4];exact k2⟩
 obtain⟨r,h1,h2⟩:=key _ s a b;rw[h2];exact h1
def rR{S R step}(Q:R->Prop)(I:S->Prop)(μ:S->Nat)
  (h:∀s,I s->(∃r,step s=some (.inr r)/\Q r)∨∃H,step s=some (.inl H)/\I H/\μ H<μ s) {s} (a:I s) (b:μ s<18446744073709551616):∃r,loop step s=some r/\Q r:=by
 have key:∀n s,I s->μ s<n->∃r,iter step n s=some r/\Q r:=by
  intro n
  induction n with
  | zero=>omega
  | succ n i =>
   intro s a hn;rcases h s a with⟨r,h1,h2⟩|⟨H,h1,h2,h3⟩
   .exact⟨r,by unfold iter;rw[h1],h2⟩
   .obtain⟨r,k,k2⟩:=i H h2 (by omega);exact⟨r,by unfold iter;rw[h1];exact k,k2⟩
 exact key _ s a b
abbrev KH(b:uA):D:=.ex (.int .u8 b.toNat)
abbrev cK(k:IntKind)(n:Int):D:=.ex (.int k n)
abbrev b7:D:=.ex (.slice none 0 0)
def rSl{α:Type}(sz:Nat)(row:α->List D)(l:List α):List D:=[.sl sz (l.map row)]
theorem eB.d{x y}(h:vN x y):eB (.d x) (.d y):=λg w st v hv=>by cases hv with|d _ _ H=>exact .d _ _ (h _ _ _ H)
def vN.e0(sz):vN (.e0 sz) (.sl sz []):=λ_ _ _ h=>D.RO h
def vN.dp{xs ys}(h:Fc xs ys):vN (.dp xs) (.dp ys):=by
 intro lim w v hv;obtain⟨h1,h2⟩:=h.get;cases hv with
 | dp _ vs hs a =>
  refine .dp _ vs (by rw[hs,h1]) λi c u hi b=>?_
  obtain⟨x,hx,H⟩:=h2 i c hi;exact H lim w u (a i x u hx b)
def vN.ro{xs ys}(h:Fc xs ys):vN (.ro xs) (.ro ys):=by
 intro lim w v hv;obtain⟨h1,h2⟩:=h.get;cases hv with
 | ro _ b off hx a =>
  refine .ro ys b off (λk hk=>hx k (by rw[h1];exact hk)) λj c u d e=>?_;obtain⟨x,m,H⟩:=h2 j c d;exact H lim w u (a j x u m e)
section weak
variable {P:uG}{f:Ctx}{N:Nat}{S:Start}{Q:EV->St->Prop}{k:List Item}{todo:List Item}{env:Env}{st:St}{ops rest:List Oper}
def bO.tX{st'}(h:st=st')(hk:bO P f N S Q ops rest k env st'):bO P f N S Q ops rest k env st:=h▸hk
end weak
def aG.le{P env st o x y}(h:aG P env st o x)(hle:eB x y):aG P env st o y:=λg b w t hi H =>
 let⟨v,h1,h2⟩:=h g b w t hi H
 ⟨v,hle _ _ _ _ h1,h2⟩
def zd.le{P env st o x y}(h:zd P env st o x)(hle:eB x y):zd P env st o y:=λg b w t hi H=>by
 rcases h g b w t hi H with⟨v,l,w',h1,h2,h3,h4⟩|⟨f,a,h1,h2⟩
 .exact .inl ⟨v,l,w',h1,hle _ _ _ _ h2,h3,h4⟩
 .exact .inr ⟨f,a,h1,h2.mono λe w' ⟨v,l,k,c,k2,k3⟩=>⟨v,l,k,hle _ _ _ _ c,k2,k3⟩⟩
section q
variable {P:uG}{base:Nat}{env:Env}{st:St}{d:Option Tmp}{ty:uE}{pos:String}{after:uD Edge}{gd:Option (Nat×Bool)}{t t2 e:uE}{x y z:uH}
section u8
variable {a b:uA}(hx:bp env x=some (.d (KH a)))(hy:bp env y=some (.d (KH b)))
theorem u8w(n):IntKind.u8.wrap n=(UInt8.ofInt n).toNat:=by
 simp only[IntKind.wrap,IntKind.signed,IntKind.bits,UInt8.ofInt];simp[zer];omega
theorem u8add(a b:uA):IntKind.u8.wrap (a.toNat+b.toNat)=(a+b).toNat:=by
 rw[u8w,UInt8.toNat_add];simp[UInt8.ofInt,zer];omega
theorem WI(a b:uA):(a.toNat==(b.toNat:Int))=(a==b):=by
 rw[zbt];simp only[zes];constructor
 .intro h;exact zet.1 (by omega)
 simp_all
include hx hy
theorem Dq:aG P env st ⟨d,.binOp .lss t x y t2,ty,pos,after,gd⟩ (.d (cB (decide (a<b)))):=by
 have:=q_lss (P:=P) (st:=st) (d:=d) (ty:=ty) (pos:=pos) (after:=after) (gd:=gd) (t:=t) (t2:=t2) hx hy
 rwa [show decide (((a.toNat:Int))<(b.toNat:Int))=decide (a<b)from by rw[zfu,zde];omega]at this
theorem WJ:aG P env st ⟨d,.binOp .leq t x y t2,ty,pos,after,gd⟩ (.d (cB (decide (a<=b)))):=by
 have:=q_leq (P:=P) (st:=st) (d:=d) (ty:=ty) (pos:=pos) (after:=after) (gd:=gd) (t:=t) (t2:=t2) hx hy
 rwa [show decide (((a.toNat:Int))<=(b.toNat:Int))=decide (a<=b)from by rw[zfu,zfw];omega]at this
theorem xw:aG P env st ⟨d,.binOp .gtr t x y t2,ty,pos,after,gd⟩ (.d (cB (decide (a > b)))):=by
 have:=q_gtr (P:=P) (st:=st) (d:=d) (ty:=ty) (pos:=pos) (after:=after) (gd:=gd) (t:=t) (t2:=t2) hx hy
 rwa [show decide (((a.toNat:Int)) > (b.toNat:Int))=decide (a > b)from by rw[zfu,gt_iff_lt,gt_iff_lt,zde];omega]at this
theorem q8_geq:aG P env st ⟨d,.binOp .geq t x y t2,ty,pos,after,gd⟩ (.d (cB (decide (a>=b)))):=by
 have:=q_geq (P:=P) (st:=st) (d:=d) (ty:=ty) (pos:=pos) (after:=after) (gd:=gd) (t:=t) (t2:=t2) hx hy
 rwa [show decide (((a.toNat:Int))>=(b.toNat:Int))=decide (a>=b)from by rw[zfu,ge_iff_le,ge_iff_le,zfw];omega]at this
theorem P6:aG P env st ⟨d,.binOp .eql t x y t2,ty,pos,after,gd⟩ (.d (cB (a==b))):=by
 have:=q_eql (P:=P) (st:=st) (d:=d) (ty:=ty) (pos:=pos) (after:=after) (gd:=gd) (t:=t) (t2:=t2) hx hy
 rwa [WI]at this
theorem vO:aG P env st ⟨d,.binOp .neq t x y t2,ty,pos,after,gd⟩ (.d (cB (a != b))):=by
 have:=q_neq (P:=P) (st:=st) (d:=d) (ty:=ty) (pos:=pos) (after:=after) (gd:=gd) (t:=t) (t2:=t2) hx hy
 rwa [show((a.toNat:Int) != (b.toNat:Int))=(a != b)from by unfold bne;rw[WI]]at this
theorem KI:aG P env st ⟨d,.binOp .add t x y t2,ty,pos,after,gd⟩ (.d (KH (a+b))):=q_add hx hy (u8add a b)
end u8
def mL{a}(hs:P.underlying t=some (.int .u8))(ht:P.underlying t2=some (.int .i64))(hx:bp env x=some (.d (KH a))):
  aG P env st ⟨d,.convert t t2 x,ty,pos,after,gd⟩ (.d (cI a.toNat)):=qG hs ht hx (by have:=a.toNat_lt;exact IS (by omega) (by omega))
def KJ{a b}(hx:bp env x=some (.d (cI a)))(hy:bp env y=some (.d (cI b)))(h:b≠0/\-9223372036854775808<=a.tdiv b/\a.tdiv b<=9223372036854775807):
  aG P env st ⟨d,.binOp .quo t x y t2,ty,pos,after,gd⟩ (.d (cI (a.tdiv b))):=q_quo hx hy h.1 (IS h.2.1 h.2.2)
def WK{a b}(hx:bp env x=some (.d (cI a)))(hy:bp env y=some (.d (cI b)))(h:b≠0):
  aG P env st ⟨d,.binOp .rem t x y t2,ty,pos,after,gd⟩ (.d (cI (a.tmod b))):=q_rem hx hy h rfl
def WL{k a b}(hx:bp env x=some (.d (cI a)))(hy:bp env y=some (.d (.ex (.int k b))))(h:0<=b/\b<63/\-9223372036854775808<=a*2 ^ b.toNat/\a*2 ^ b.toNat<=9223372036854775807):
  aG P env st ⟨d,.binOp .shl t x y t2,ty,pos,after,gd⟩ (.d (cI (a*2 ^ b.toNat))):=MM hx hy h.1 (by
   rw[zga (by simp[IntKind.bits];omega)];exact IS h.2.2.1 h.2.2.2)
section sl
variable {α:Type}{sz:Nat}{row:α->List D}{l:List α}{ev:EV}{inf:TypeInfo}
def P7[Inhabited α]{k i}(ht:P.underlying t=some (.slice e))(hi:P.info? e=some inf)(dE:inf.size=sz)(hx:bp env x=some ev)(hs:nE ev=some (sz,l.map row))(hy:bp env y=some (.d (.ex (.int k i))))(h:0<=i/\i<l.length):
  aG P env st ⟨d,.indexAddr t x y,ty,pos,after,gd⟩ (.d (.ro (row (nth l i.toNat)))):=q_idxN (n:=i.toNat) ht hi dE hx hs hy (by omega) (Dp (by omega))
def kS{a k i}(ht:P.underlying t=some .string)(hx:bp env x=some (.d (cS a)))(hy:bp env y=some (.d (.ex (.int k i))))(h:0<=i/\i<a.length):
  aG P env st ⟨d,.index t x y,ty,pos,after,gd⟩ (.d (KH (nth a i.toNat))):=by
 have:=WE (n:=i.toNat) (st:=st) (d:=d) (ty:=ty) (pos:=pos) (after:=after) (gd:=gd) ht hx hy (by omega) (by omega);exact this
def q_lenL(ht:P.underlying t=some (.slice e))(hx:bp env x=some ev)(hs:nE ev=some (sz,l.map row)):
  aG P env st ⟨d,.call ⟨.builtin .len,#[x],#[t]⟩,ty,pos,after,gd⟩ (.d (cI l.length)):=by
 have:=q_lenA (st:=st) (d:=d) (ty:=ty) (pos:=pos) (after:=after) (gd:=gd) ht hx hs
 rwa [zcb]at this
def R5{k H a b}(ht:P.underlying t=some (.slice e))(hi:P.info? e=some inf)(dE:inf.size=sz)(hx:bp env x=some ev)(hs:nE ev=some (sz,l.map row))(hy:bp env y=some (.d (.ex (.int k a))))(c:bp env z=some (.d (.ex (.int H b))))(h:0<=a/\a<=b/\b<=l.length):
  aG P env st ⟨d,.slice t x (some y) (some z) none,ty,pos,after,gd⟩ (.d (au sz row ((l.take b.toNat).drop a.toNat))):=by
 have:=q_slLH (st:=st) (d:=d) (ty:=ty) (pos:=pos) (after:=after) (gd:=gd) ht hi dE hx hs hy c h.1 h.2.1 (by simp_all);simpa[au] using this
def Gp{k b}(ht:P.underlying t=some (.slice e))(hi:P.info? e=some inf)(dE:inf.size=sz)(hx:bp env x=some ev)(hs:nE ev=some (sz,l.map row))(H:bp env z=some (.d (.ex (.int k b))))(h:0<=b/\b<=l.length):
  aG P env st ⟨d,.slice t x none (some z) none,ty,pos,after,gd⟩ (.d (au sz row (l.take b.toNat))):=by
 have:=q_slH (st:=st) (d:=d) (ty:=ty) (pos:=pos) (after:=after) (gd:=gd) ht hi dE hx hs H h.1 (by simp_all);simpa[au] using this
def vP{k a}(ht:P.underlying t=some (.slice e))(hi:P.info? e=some inf)(dE:inf.size=sz)(hx:bp env x=some ev)(hs:nE ev=some (sz,l.map row))(hy:bp env y=some (.d (.ex (.int k a))))(h:0<=a/\a<=l.length):
  aG P env st ⟨d,.slice t x (some y) none none,ty,pos,after,gd⟩ (.d (au sz row (l.drop a.toNat))):=by
 have:=q_slL (st:=st) (d:=d) (ty:=ty) (pos:=pos) (after:=after) (gd:=gd) ht hi dE hx hs hy h.1 (by simp_all);simpa[au] using this
def WM{a k H i j}(ht:P.underlying t=some .string)(hx:bp env x=some (.d (cS a)))(hy:bp env y=some (.d (.ex (.int k i))))(b:bp env z=some (.d (.ex (.int H j))))(h:0<=i/\i<=j/\j<=a.length):
  aG P env st ⟨d,.slice t x (some y) (some z) none,ty,pos,after,gd⟩ (.d (cS ((a.take j.toNat).drop i.toNat))):=by
 have:=q_strLH (st:=st) (d:=d) (ty:=ty) (pos:=pos) (after:=after) (gd:=gd) ht hx hy b h.1 h.2.1 h.2.2
 rwa [←zfl]at this
def Dr{n b}(h:n<=1000000000)(H:b<=100000):n*b<=140737488355328:=zci (Nat.mul_le_mul h H) (by decide)
def Ds{l' tk z w}(ht:P.underlying t=some (.slice e))(hi:P.info? e=some inf)(h:inf.zero=some z)(H:inf.size=sz)(k:z.cells.size=sz)(a:inf.bytes<=100000)
  (hx:bp env x=some (.dA sz (l.map row) tk)) (b:st.ag[tk]?=some ⟨e,sz,l.length,none⟩) (hy:bp env y=some w) (hs:nE w=some (sz,l'.map row)) (hn:l.length+l'.length<=1000000000) :
  uL P base env st ⟨d,.call ⟨.builtin .append,#[x,y],#[t,t]⟩,ty,pos,after,gd⟩ (.dA sz ((l++l').map row) tk) (st.aQ tk ⟨e,sz,(l++l').length,none⟩):=by
 have:=Wy (base:=base) (d:=d) (ty:=ty) (pos:=pos) (after:=after) (gd:=gd) ht hi h H k hx (by simpa using b) hy hs (by simpa using Dr hn a) (by grind);simp_all
def vQ{l':LQ α}{z w}(ht:P.underlying t=some (.slice e))(hi:P.info? e=some inf)(h:inf.zero=some z)(H:inf.size=sz)(k:z.cells.size=sz)(a:inf.bytes<=100000)
  (hx:bp env x=some (.d b7)) (hy:bp env y=some w) (hs:nE w=some (sz,l'.map row)) (hn:l'.length<=1000000000) :
  uL P base env st ⟨d,.call ⟨.builtin .append,#[x,y],#[t,t]⟩,ty,pos,after,gd⟩ (.dA sz (l'.map row) st.ag.length) ((st.tok ⟨e,sz,0,none⟩).aQ st.ag.length ⟨e,sz,l'.length,none⟩):=by
 have:=MZ (base:=base) (st:=st) (d:=d) (ty:=ty) (pos:=pos) (after:=after) (gd:=gd) ht hi h H k hx hy hs (by simpa using Dr hn a) (by grind);simp_all
def iG{l' z w e0}(ht:P.underlying t=some (.slice e))(hi:P.info? e=some inf)(h:inf.zero=some z)(H:inf.size=sz)(k:z.cells.size=sz)(a:inf.bytes<=100000)
  (hx:bp env x=some e0) (h0:e0=.d (.e0 sz)∨e0=.d b7) (hy:bp env y=some w) (hs:nE w=some (sz,l'.map row)) (hn:l'.length<=1000000000) :
  zd P env st ⟨d,.call ⟨.builtin .append,#[x,y],#[t,t]⟩,ty,pos,after,gd⟩ (.d (au sz row l')) :=
 Ul ht hi h H k hx h0 hy hs (by simpa using Dr hn a) (by grind)
def tu{a}(hs:P.underlying t=some (.slice e))(A:P.underlying e=some (.int .u8))(h:P.underlying t2=some .string)(hx:bp env x=some ev)(M:nE ev=some (1,a.map eW)):
  aG P env st ⟨d,.convert t t2 x,ty,pos,after,gd⟩ (.d (cS a)):=P0 hs A h hx M
end sl
def Gq(k:IntKind)(a b:Int):= k.wrap (BitVec.ofInt k.bits a &&& BitVec.ofInt k.bits b).toNat
def IV(k:IntKind)(a b:Int):= k.wrap (BitVec.ofInt k.bits a ||| BitVec.ofInt k.bits b).toNat
def M7(k:IntKind)(a b:Int):= k.wrap (BitVec.ofInt k.bits a ^^^ BitVec.ofInt k.bits b).toNat
section bits
variable {k:IntKind}{a b:Int}(hx:bp env x=some (.d (.ex (.int k a))))(hy:bp env y=some (.d (.ex (.int k b))))
include hx hy
theorem q_and:aG P env st ⟨d,.binOp .and t x y t2,ty,pos,after,gd⟩ (.d (.ex (.int k (Gq k a b)))):=PH hx hy (.inl rfl) λw=>rfl
theorem q_or:aG P env st ⟨d,.binOp .or t x y t2,ty,pos,after,gd⟩ (.d (.ex (.int k (IV k a b)))):=PH hx hy (.inr (.inl rfl)) λw=>rfl
theorem q_xor:aG P env st ⟨d,.binOp .xor t x y t2,ty,pos,after,gd⟩ (.d (.ex (.int k (M7 k a b)))):=PH hx hy (.inr (.inr (.inl rfl))) λw=>rfl
end bits
theorem R6(a:uA):BitVec.ofInt 8 a.toNat=a.toBitVec:=by
 simp_all
def u8wn(n:Nat)(h:n<256):IntKind.u8.wrap n=n:=by
 simp only[IntKind.wrap,IntKind.signed,IntKind.bits]
 grind
section bits8
variable {a b:uA}(hx:bp env x=some (.d (KH a)))(hy:bp env y=some (.d (KH b)))
include hx hy
theorem sv:aG P env st ⟨d,.binOp .and t x y t2,ty,pos,after,gd⟩ (.d (KH (a &&& b))):=by
 have h:=q_and (P:=P) (st:=st) (d:=d) (ty:=ty) (pos:=pos) (after:=after) (gd:=gd) (t:=t) (t2:=t2) hx hy;have e:Gq .u8 a.toNat b.toNat=((a &&& b).toNat:Int):=by
  show IntKind.u8.wrap ((BitVec.ofInt 8 (a.toNat:Int) &&& BitVec.ofInt 8 (b.toNat:Int)).toNat:Int)=_;rw[R6,R6,u8wn _ (BitVec.isLt _)];rfl
 rwa [e]at h
end bits8
def eX(a:uA)(n:Int):= UInt8.ofNat (a.toNat / 2 ^ min n.toNat 8)
def Dt{k a n}(hx:bp env x=some (.d (KH a)))(hy:bp env y=some (.d (.ex (.int k n))))(h:0<=n):
  aG P env st ⟨d,.binOp .shr t x y t2,ty,pos,after,gd⟩ (.d (KH (eX a n))):=Wn hx hy h (by
   show Int.fdiv (a.toNat:Int) (2 ^ (min n.toNat 8))=_;have h1:=a.toNat_lt;have h2:=Nat.div_le_self a.toNat (2 ^ (min n.toNat 8));rw[zfd _ (Int.le_of_lt (Int.pow_pos (by decide)))];unfold eX;rw[zer,zdl (by omega)]
   norm_cast)
end q
section ret
variable {P:uG}{f:Ctx}{N:Nat}{S:Start}{Q:EV->St->Prop}{k:List Item}{env:Env}{st:St}
def aE.Gr{id c}{ι:Type}(E:ι->Env)(T:ι->St)(I:ι->Prop)
  (hk:∀i,I i->aE P f N S Q k (E i) (T i)) (h:(∀i,I i->aE P f N S Q (.inBlock id::k) (E i) (T i))->(∀i,I i->aE P f N S Q k (E i) (T i))->aE P f N S Q (.code c::.inBlock id::k) env st) :
  aE P f N S Q (.code (.block id c)::k) env st:=.block (h (λi hi=>.inBlock (hk i hi)) hk)
def ResEV(P:uG)(env:Env)(st:St):ResultVar->EV->Prop
 | .tmp t,r=>lookup t env=some r
 | .cell a T,r=>(∃o off,lookup a env=some (.ref o off))/\aG P env st ⟨none,.load T (.tmp a),0, "",#[],none⟩ r
def Gs(P:uG)(env:Env)(st:St):List ResultVar->List EV->Prop
 | [],[]=>True
 | x::xs,e::es=>ResEV P env st x e/\Gs P env st xs es
 | _,_=>False
def qt:List EV->EV
 | [r]=>r
 | l=>.dp l
def M8:List EV->List D->Prop
 | [],[]=>True
 | e::es,x::xs=>eB e (.d x)/\M8 es xs
 | _,_=>False
def M8.get:∀{es ds},M8 es ds->es.length=ds.length/\∀(i:Nat) d,ds[i]?=some d->∃e,es[i]?=some e/\eB e (.d d)
 | [],[],_=>⟨rfl,λi y h=>by simp at h⟩
 | e::es,d::ds,h=>by
  obtain⟨h1,h2⟩:=M8.get h.2;refine⟨by simp[h1],λi z H=>?_⟩;cases i with
  | zero=>simp at H;subst H;exact⟨e,rfl,h.1⟩
  | succ i=>simp_all
 | [],_::_,h=>h.elim
 | _::_,[],h=>h.elim
def eB.WN{es ds}(h:M8 es ds):eB (.dp es) (.d (.dp ds)):=by
 intro g w st v hv;obtain⟨h1,h2⟩:=h.get;cases hv with
 | dp _ vs hs a =>
  refine .d _ _ (.dp _ vs (by rw[hs,h1]) λi d u b c=>?_);obtain⟨e,f,H⟩:=h2 i d b;cases H _ _ _ _ (a i e u f c)with|d _ _ h=>exact h
def wO(tmps:uD uB):ResultVar->Sem uB
 | .tmp t=>pure (tmps.getD t undef)
 | .cell a t=>do loadVar t (←asAddr (tmps.getD a undef))
def res_one{g w base tmps}(hi:Inv g base w st)(he:cT g w st env tmps){x e}(h:ResEV P env st x e):
  ∃v,(wO tmps x).run P w=.ok v w/\aY g w st e v:=by
 cases x with
 | tmp t =>
  obtain⟨v,h1,h2⟩:=he t e h;exact⟨v,by simp[wO,zba,h1],h2⟩
 | cell a T =>
  obtain⟨⟨o,off,hx⟩,H⟩:=h;obtain⟨v,h1,h2⟩:=H g base w tmps hi he;have h3:=h2 w (.refl _ _);obtain⟨p,h4,b⟩:=he a _ hx;have c:(Act.eval ⟨tmps,[]⟩ (.tmp a))=p:=by
   show tmps.getD a undef=p;rw[zba,h4];rfl
  refine⟨v,?_,h1⟩;cases b with
  | ref _ _ f =>
   simp only[execOp,c,Instr.loadAt,Instr.sureAddr,Sem.run_bind]at h3;simp only[wO];simp[zba,h4,asAddr];simp at h3;generalize(Sem.run P (loadVar T { block:=g.ob o,off:=off }) w)=res at h3 ⊢;cases res with
   | ok x d=>simp_all
   | halt h d=>simp_all
def KK{g w base tmps}(hi:Inv g base w st)(he:cT g w st env tmps):∀{xs es},Gs P env st xs es ->
  ∃vs:LQ uB,(xs.mapM (wO tmps)).run P w=.ok vs w/\vs.length=es.length/\∀(i:Nat) e v,es[i]?=some e->vs[i]?=some v->aY g w st e v
 | [],[],_=>⟨[],by simp,rfl,by simp⟩
 | x::xs,e::es,h=>by
  obtain⟨v,h1,h2⟩:=res_one hi he h.1;obtain⟨vs,k,k2,k3⟩:=KK hi he h.2;refine⟨v::vs,by simp[h1,k],by simp[k2],λi e' v' A M=>?_⟩
  grind
 | [],_::_,h=>h.elim
 | _::_,[],h=>h.elim
def aE.retN{f fn} xs es(a:P.funcs[f]?=some fn)(b:fn.results=xs.toArray)(h:Gs P env st xs es)(d:Q (qt es) st):aE P (.of f) N S Q (.code .ret::k) env st:=by
 intro g w tmps hi j l hn;obtain⟨vs,h1,h2,h3⟩:=KK hi l h;have m:(results fn tmps).run P w=.ok (if h:vs.toArray.size=1 then vs.toArray[0]else .tuple vs.toArray) w:=by
  have W:(results fn tmps)=(do let vs ←fn.results.mapM (wO tmps);pure (if h:vs.size=1 then vs[0]else .tuple vs)):=by
   unfold results;congr 1
  rw[W,b,zev];simp_all
 refine bT.ret a m ⟨_,qt es,st,g,rfl,d,?_,hi,j⟩;by_cases hl:vs.toArray.size=1
 .rw[dif_pos hl]
  match vs,es,h2,hl,h3 with
  | [v],[e],_,_,h3=>exact h3 0 e v rfl rfl
  | [],_,_,hl,_=>simp at hl
  | _::_::_,_,_,hl,_=>simp at hl
 .rw[dif_neg hl];have H:qt es=.dp es:=by
   match es,h2 with
   | [],_=>rfl
   | [e],h2=>simp_all
   | _::_::_,_=>rfl
  rw[H];exact .dp es vs.toArray (by omega) λi c u n o=>h3 i c u n (by simp_all)
end ret
section b
variable {P:uG}{env:Env}{st:St}{d:Option Tmp}{ty:uE}{pos:String}{after:uD Edge}{gd:Option (Nat×Bool)}{t t2 e:uE}{x y z:uH}
def Fc.aW:∀xs,Fc xs xs
 | []=>trivial
 | x::xs=>⟨.aW x,Fc.aW xs⟩
def IW{n sz inf z h rows l}(ht:P.underlying t=some (.slice e))(hi:P.info? e=some inf)(dE:inf.size=sz)(b:inf.zero=some z)(k:Nat.beq z.cells.size sz=true)
  (s:(Nat.ble (n*sz) 16777216 && Nat.blt 0 n && Nat.blt 0 sz)=true) (M:cellsD (.d (cv z))=some h) (hl:Bv (λi=>some (i*sz,sz)) env (List.replicate n h).flatten l=some rows.flatten)
  (H:(rows.all (λr=>Nat.beq r.length sz) && Nat.beq rows.length n)=true) :
  zd P env st ⟨d,.buildSlice t n l.toArray,ty,pos,after,gd⟩ (.d (.sl sz rows)):=by
 simp only[zam]at s H;have K:=zai k;have a:h.length=sz:=by
  have:=(iE (g:=⟨λ_=>0,λ_=>0,λ_=>.nilFunc⟩) (w:=(default:uC)) (st:=⟨[],[]⟩) M (.d _ _ (nC _ _ z))).1;omega
 exact Bw ht hi dE b K (gj s.1.2) (zae s.1.1) (by simp[a]) M hl H.1 (zai H.2) (gj s.2)
def dV{a b}(hx:bp env x=some (.d (cB a)))(hy:bp env y=some (.gd a (.d (cB b))))(h:bp env z=some (.d (cB false))):
  aG P env st ⟨d,.pick x y z,ty,pos,after,gd⟩ (.d (cB (a && b))):=by
 have:=Ug (P:=P) (st:=st) (d:=d) (ty:=ty) (pos:=pos) (after:=after) (gd:=gd) hx hy h
 rwa [show(if a=true then b else false)=(a && b)from by cases a<;>rfl]at this
def Jy{a b}(hx:bp env x=some (.d (cB a)))(hy:bp env y=some (.d (cB true)))(h:bp env z=some (.gd (!a) (.d (cB b)))):
  aG P env st ⟨d,.pick x y z,ty,pos,after,gd⟩ (.d (cB (a || b))):=by
 have:=Wq (P:=P) (st:=st) (d:=d) (ty:=ty) (pos:=pos) (after:=after) (gd:=gd) hx hy h
 rwa [show(if a=true then true else b)=(a || b)from by cases a<;>rfl]at this
def vR{f' l ts es ds r}(F:Enters P f')(hx:bp env x=some (.d (.ex (.func (.func f') #[] #[]))))(h1:y0 env l=some es)(h2:MN es=some ds)(H:aR P f' ds (·=r)):
  zd P env st ⟨d,.call ⟨.value x,l.toArray,ts⟩,ty,pos,after,gd⟩ (.d r):=λg base w tmps hi h=>by
 have hv:=(aq h hx).aO;have b:=Js (d:=d) (ty:=ty) (pos:=pos) (after:=after) (l:=l) (ts:=ts) F w hv (gd:=gd);rw[Array.append_empty]at b;refine .inr ⟨f',_,b,(H g.lim w _ (hi.tS.mono hi.base) (.of h h1 h2)).mono ?_⟩;rintro e w' ⟨v,i,c,rfl,rfl,a,J,f,hl⟩;exact⟨v,c,rfl,.d _ _ a,f,hl⟩
def Inv.newTokN{g base w st}(h:Inv g base w st)(e sz n:Nat) vs(x:vs.size=n*sz)(hn:n<=maxLen):
  ∃g',g'.tk st.ag.length=.slice (some ⟨w.heap.size,0,none⟩) n n/\Inv g' base (w.alloc (.cells vs e)) (st.tok ⟨e,sz,n,none⟩)/\Step base g w st g' (w.alloc (.cells vs e)) (st.tok ⟨e,sz,n,none⟩):=by
 obtain⟨g',h1,_,_,h2,h3⟩:=h.tn ⟨e,sz,n,none⟩ (v:=.slice (some ⟨w.heap.size,0,none⟩) n n) (xs:=vs.toList) ⟨by simp[x],.inr ⟨w.heap.size,n,vs,rfl,h.base,heap_alloc_new w _,zag _,hn,x,by rw[zbj (by simp[x])]⟩⟩
  (.inr ⟨rfl,(Below.refl _ w).alloc (zag _) _⟩) (λrows H=>by cases H)
 grind
def IX{base n sz inf z H rows l}(ht:P.underlying t=some (.slice e))(hi:P.info? e=some inf)(dE:inf.size=sz)(K:inf.zero=some z)(L:Nat.beq z.cells.size sz=true)
  (s:(Nat.ble (n*sz) 16777216 && Nat.blt 0 n && Nat.blt 0 sz)=true) (N:cellsD (.d (cv z))=some H) (hl:Bv (λi=>some (i*sz,sz)) env (List.replicate n H).flatten l=some rows.flatten)
  (y:(rows.all (λr=>Nat.beq r.length sz) && Nat.beq rows.length n)=true) :
  uL P base env st ⟨d,.buildSlice t n l.toArray,ty,pos,after,gd⟩ (.dA sz rows st.ag.length) (st.tok ⟨e,sz,rows.length,none⟩):=by
 simp only[zam]at s y;have O:=zai L;have hn:=zai y.2;have Jw:=gj s.1.2;have M:=gj s.2;have Q:=zae s.1.1;intro g w tmps a R;have A:=iE (g:=g) (w:=w) (st:=st) N (.d _ _ (nC _ _ z));have f:H.length=sz:=by rw[←A.1,O]
 have B:(List.replicate n H).flatten.length=n*sz:=by simp[f]
 have C:∀row∈rows,row.length=sz:=by
  simp_all
 have S:Ge g.lim w (List.replicate n H).flatten ((Array.range (n*sz)).map (z.cells[· % z.cells.size]!)):=by
  refine⟨by simp[B],λi c u k D=>?_⟩;have E:i<n*sz:=by rw[←B];grind
  have xq:i % sz<sz:=zdq _ M;have hdiv:i / sz<n:=zdg (by rw[zda];exact E);have T:i=i / sz*sz+i % sz:=by rw[zda];exact(zeg i sz).symm
  have V:=ig (rows:=List.replicate n H) (sz:=sz) (i:=i / sz) (j:=i % sz) (row:=H) (c:=H[i % sz]'(by omega)) (by grind) (by grind) (zaf (by omega));rw[←T,k]at V;have m:H[i % sz]?=some c:=by grind
  have o:z.cells[i % sz]?=some u:=by
   have rY:i % sz<z.cells.size:=by omega
   have:((Array.range (n*sz)).map (z.cells[· % z.cells.size]!))[i]?=some (z.cells[i % z.cells.size]!):=by simp[E]
   rw[this]at D
   grind
  exact A.2 _ c u m o
 obtain⟨us,h1,h2,h3⟩:=sb R l _ _ _ hl S;have W:=eK C;have U:us.size=n*sz:=by rw[h2.1,W,hn]
 have q:n<=maxLen:=by
  have:n*1<=n*sz:=Nat.mul_le_mul_left n M;simp only[maxLen];omega
 obtain⟨g',F,k2,k3⟩:=a.newTokN e sz n us U q;have X:st.tok ⟨e,sz,rows.length,none⟩=st.tok ⟨e,sz,n,none⟩:=by rw[hn]
 rw[X];have G:(st.tok ⟨e,sz,n,none⟩).ag[st.ag.length]?=some ⟨e,sz,n,none⟩:=by simp[St.tok]
 obtain⟨xs,v,I⟩:=k2.tail _ _ _ _ G;rw[F]at v I;have Y:xs=us.toList:=by
  rcases v.2 with⟨Z,_⟩|⟨gb,cap,cur,e1,_,J,e4,e5,e6,e7⟩
  .cases Z
  .cases e1;rw[heap_alloc_new]at J;cases J;rw[←e7,zbj (by simp[U])]
 subst Y;refine⟨_,g',_,?_,.dA sz rows _ _ e n (Kx v hn C (λb hb=>by rw[I b hb];omega) λj u c D k=>?_) G (zex hn) (λ_=>.inl F.symm),k2,k3⟩
 .subst dE;have EH:¬(16777216<n*inf.size):=by omega
  have mJ:¬n*inf.size=0:=by
   intro h0;rcases Nat.mul_eq_zero.1 h0 with h|h<;>omega
  have Dg:Instr.fill (λi=>some (i*inf.size,inf.size)) (Array.map (λx=>z.cells[x % z.cells.size]!) (Array.range (n*inf.size))) (List.map (λp=>(p.1,Act.eval ⟨tmps,[]⟩ p.2)) l)=some us:=h1;simp[execOp,Instr.buildSlice,run_underlying ht,cM hi,EH,mJ,ja hi K,Dg,newRow]
 .have:=h2.2 j c u k (by simp_all);exact⟨this.1.mono k3.cU.bp,this.2⟩
end b
def b8(rs:List Nat)(N i:Nat):Nat:=match rs[i]? with
 | some r=>r
 | none=>N+(i-rs.length)
structure R7(rs:List Nat)(N:Nat):Prop where
 lt:∀r,r∈rs->r<N
 inj:∀(i j:Nat) (r:Nat),rs[i]?=some r->rs[j]?=some r->i=j
def Du{rs N i}(h:R7 rs N)(hi:i<rs.length):b8 rs N i<N/\rs[i]?=some (b8 rs N i):=by
 have e:rs[i]?=some rs[i]:=zaf hi;unfold b8;rw[e];exact⟨h.lt _ (zft hi),rfl⟩
def Ar{rs N i}(hi:rs.length<=i):b8 rs N i=N+(i-rs.length):=by
 unfold b8;rw[zbu hi]
def KL{rs N i j}(h:R7 rs N)(e:b8 rs N i=b8 rs N j):i=j:=by
 by_cases hi:i<rs.length<;>by_cases H:j<rs.length
 .obtain⟨_,h1⟩:=Du h hi;obtain⟨_,h2⟩:=Du h H;rw[e]at h1;exact h.inj i j _ h1 h2
 .obtain⟨h1,_⟩:=Du h hi;rw[Ar (i:=j) (by omega)]at e;omega
 .obtain⟨h1,_⟩:=Du h H;rw[Ar (i:=i) (by omega)]at e;omega
 .rw[Ar (i:=i) (by omega),Ar (i:=j) (by omega)]at e;omega
open Classical in
noncomputable def gX(rs:List Nat)(N o:Nat):Option Nat:=if h:∃i,b8 rs N i=o then some h.choose else none
def FD{rs N}(h:R7 rs N)(i):gX rs N (b8 rs N i)=some i:=by
 have H:∃j,b8 rs N j=b8 rs N i:=⟨i,rfl⟩;unfold gX;rw[dif_pos H];congr 1;exact KL h H.choose_spec
def Gt{rs N o i}(e:gX rs N o=some i):b8 rs N i=o:=by
 unfold gX at e;split at e
 .grind
 .cases e
def M9{rs N o}(e:gX rs N o=none):o<N/\∀i,b8 rs N i≠o:=by
 unfold gX at e;split at e
 .cases e
 .rename_i h;refine⟨?_,λi hi=>h ⟨i,hi⟩⟩
  false_or_by_contra
  rename_i b;exact h ⟨rs.length+(o-N),by rw[Ar (by omega)];omega⟩
def Jz{rs N o i}(h:R7 rs N)(e:gX rs N o=some i)(H:o<N):i<rs.length:=by
 have:=Gt e
 false_or_by_contra
 rw[Ar (by omega)]at this;omega
def jK{α:Type}:List α->List Nat->List α->List α
 | l,r::rs,x::xs=>jK (l.set r x) rs xs
 | l,_,xs=>l++xs
def As{α}:∀rs (l xs:LQ α),rs.length<=xs.length->(jK l rs xs).length=l.length+(xs.length-rs.length)
 | [],l,xs,_=>by simp[jK]
 | r::rs,l,[],h=>by simp at h
 | r::rs,l,x::xs,h=>by
  simp only[jK];rw[As rs _ xs (by grind)];simp
def rq{α}:∀rs (l xs:LQ α) o,o<l.length->o ∉ rs->(jK l rs xs)[o]?=l[o]?
 | [],l,xs,o,h,_=>by simp[jK,zaj h]
 | r::rs,l,[],o,h,_=>by simp[jK]
 | r::rs,l,x::xs,o,h,hn=>by
  simp only[jK];simp only[zao,not_or]at hn;rw[rq rs _ xs o (by simp_all) hn.2,zbg,zaa (zcq hn.1)]
def Au{α}:∀rs (l xs:LQ α) N,l.length=N->R7 rs N->rs.length<=xs.length->∀i,(jK l rs xs)[b8 rs N i]?=xs[i]?
 | [],l,xs,N,H,_,_,i=>by
  rw[Ar (by simp)];simp only[jK,zdu,Nat.sub_zero,←H];rw[zan (by omega)];simp
 | r::rs,l,[],N,H,_,h,i=>by simp at h
 | r::rs,l,x::xs,N,H,he,h,i=>by
  have A:R7 rs N:=⟨λr d=>he.lt r (by simp[d]),λi j r a b=>by
   have:=he.inj (i+1) (j+1) r (by grind) (by grind);omega⟩
  have d:r<N:=he.lt r (by simp);have c:r ∉ rs:=λe=>by
   obtain⟨j,f⟩:=zcr.1 e;have:=he.inj 0 (j+1) r (by simp) (by simp_all);omega
  simp only[jK];cases i with
  | zero =>
   have:b8 (r::rs) N 0=r:=by simp[b8]
   rw[this,rq rs _ xs r (by simp_all) c];simp_all
  | succ i =>
   have:b8 (r::rs) N (i+1)=b8 rs N i:=by
    unfold b8;simp_all
   rw[this,Au rs _ xs N (by simp_all) A (by grind) i];simp
def Ux(rs:List Nat)(N:Nat):= rs.all (λr=>Nat.blt r N) && KM rs
where KM:List Nat->Bool
 | []=>true
 | r::rs=>rs.all (λx=>!Nat.beq x r) && KM rs
def R7.of{rs N}(h:Ux rs N=true):R7 rs N:=by
 simp only[Ux,zam,zbf]at h;refine⟨λr a=>gj (h.1 r a),?_⟩;have key:∀(l:LQ Nat),Ux.KM l=true->∀(i j:Nat) (r:Nat),l[i]?=some r->l[j]?=some r->i=j:=by
  intro l
  induction l with
  | nil=>simp_all
  | cons x l b =>
   intro hn i j r hi H;simp only[Ux.KM,zam,zbf]at hn;cases i with
   | zero =>
    cases j with
    | zero=>rfl
    | succ j =>
     simp at hi H;subst hi;have:=hn.1 x (zav H);simp at this
   | succ i =>
    cases j with
    | zero =>
     simp at hi H;subst H;have:=hn.1 x (zav hi);simp at this
    | succ j =>
     have:=b hn.2 i j r (by simp_all) (by simp_all);omega
 grind
section ren
def EV.ren(ρ τ:Nat->Nat):EV->EV
 | .d x=>.d x
 | .ref o off=>.ref (ρ o) off
 | .Da o off n c=>.Da (ρ o) off n c
 | .dA sz rows t=>.dA sz rows (τ t)
 | .mp o=>.mp (ρ o)
 | .vc t k=>.vc (τ t) k
 | .vp t k i off=>.vp (τ t) k i off
 | .vw t k lo n=>.vw (τ t) k lo n
 | .xl f cs=>.xl f (KN ρ τ cs)
 | .agg cs=>.agg (KN ρ τ cs)
 | .dp cs=>.dp (KN ρ τ cs)
 | .gd b x=>.gd b (EV.ren ρ τ x)
where
 KN (ρ τ):List EV->List EV
 | []=>[]
 | x::l=>EV.ren ρ τ x::KN ρ τ l
def mM(ρ τ):∀l:LQ EV,EV.ren.KN ρ τ l=l.map (EV.ren ρ τ)
 | []=>rfl
 | x::l=>by simp[EV.ren.KN,mM ρ τ l]
def jE.ren(ρ τ:Nat->Nat):jE->jE
 | .row ty cs=>.row ty (EV.ren.KN ρ τ cs)
 | .map es=>.map (es.map λp=>(p.1,p.2.ren ρ τ))
 | .raw x=>.raw x
 | .gone=>.gone
def jE.WQ{ρ τ}{x:jE}(h:x.ren ρ τ=.gone):x=.gone:=by cases x<;>first|rfl|cases h
def eI.sub(g:eI)(ρ τ:Nat->Nat):eI:=⟨g.lim,λo=>g.ob (ρ o),λt=>g.tk (τ t)⟩
variable {ρ τ:Nat->Nat}{g g':eI}{w:uC}{s0 st:St}
def aY.down(ht:∀t x,s0.ag[t]?=some x->st.ag[τ t]?=some x):∀{x v},nF s0.aB.length s0.ag.length x=true->aY g w st (x.ren ρ τ) v->aY (g.sub ρ τ) w s0 x v:=by
 have p:∀{t:Nat},t<s0.ag.length->∀{x:ju},st.ag[τ t]?=some x->s0.ag[t]?=some x:=fun {t} q {x} hx=>by
  have h1:=ht t _ (zaf q);rw[hx]at h1;simp_all
 have main:∀{y:EV} {v:uB},aY g w st y v->∀x:EV,nF s0.aB.length s0.ag.length x=true->y=x.ren ρ τ->aY (g.sub ρ τ) w s0 x v:=by
  intro y v h
  induction h with
  | d a v h =>
   intro x hx e;cases x<;>simp only[EV.ren]at e<;>cases e;exact .d _ _ h
  | ref o off h =>
   intro x hx e;cases x<;>simp only[EV.ren]at e<;>cases e;exact .ref (g:=g.sub ρ τ) _ _ (gj hx)
  | Da o off n c h =>
   intro x hx e;cases x<;>simp only[EV.ren]at e<;>cases e;exact .Da (g:=g.sub ρ τ) _ _ _ _ (gj hx)
  | dA sz rows t v r n z s hn hv =>
   intro x hx e;cases x<;>simp only[EV.ren]at e<;>cases e;exact .dA sz rows _ v r n z (p (gj hx) s) hn hv
  | mp o h =>
   intro x hx e;cases x<;>simp only[EV.ren]at e<;>cases e;exact .mp (g:=g.sub ρ τ) _ (gj hx)
  | xl f cs vs hs h H =>
   intro x hx e;cases x<;>simp only[EV.ren]at e<;>cases e;rename_i ds;simp only[nF]at hx;rw[mM]at hs H;refine .xl f _ vs (by simp_all) λi c u j l=>H i (c.ren ρ τ) u (by rw[zau,j];rfl) l c (pz hx i c j) rfl
  | agg cs vs hs h1 h H =>
   intro x hx e;cases x<;>simp only[EV.ren]at e<;>cases e;simp only[nF]at hx;rw[mM]at hs H;refine .agg _ vs (by simp_all) h1 λi c u j l=>H i (c.ren ρ τ) u (by rw[zau,j];rfl) l c (pz hx i c j) rfl
  | dp cs vs hs h H =>
   intro x hx e;cases x<;>simp only[EV.ren]at e<;>cases e;simp only[nF]at hx;rw[mM]at hs H;refine .dp _ vs (by simp_all) λi c u j l=>H i (c.ren ρ τ) u (by rw[zau,j];rfl) l c (pz hx i c j) rfl
  | gd b a v h0 h H =>
   intro x hx e;cases x<;>simp only[EV.ren]at e<;>cases e;simp only[nF]at hx;exact .gd _ _ v h0 λA=>H A _ hx rfl
  | vc t k v s m h =>
   intro x hx e;cases x<;>simp only[EV.ren]at e<;>cases e;exact .vc _ _ v (gj hx) m λx rows hy=>h x rows (ht _ _ hy)
  | vp t k i off v s m h =>
   intro x hx e;cases x<;>simp only[EV.ren]at e<;>cases e;exact .vp _ _ _ _ v (gj hx) m λx rows hy=>h x rows (ht _ _ hy)
  | vw t k lo n v s m h =>
   intro x hx e;cases x<;>simp only[EV.ren]at e<;>cases e;exact .vw _ _ _ _ v (gj hx) m λx rows hy=>h x rows (ht _ _ hy)
 grind
def aY.up{g1 s1}(z:∀o,o<s1.aB.length->g'.ob (ρ o)=g1.ob o/\ρ o<st.aB.length)(l:g'.lim=g1.lim)
  (ht:∀t,t<s1.ag.length->st.ag[τ t]?=s1.ag[t]?/\g'.tk (τ t)=g1.tk t) {x} {v} (h:aY g1 w s1 x v):aY g' w st (x.ren ρ τ) v:=by
 have j:∀{t:Nat},t<s1.ag.length->τ t<st.ag.length:=fun {t} h=>by
  have h1:=(ht t h).1;rw[zaf h]at h1
  grind
 induction h with
 | d a v h=>exact .d _ _ (by rw[l];exact h)
 | ref o off h=>rw[←(z o h).1];exact .ref _ _ (z o h).2
 | Da o off n c h=>rw[←(z o h).1];exact .Da _ _ _ _ (z o h).2
 | dA sz rows t v p n q s hn hv =>
  have hl:=(zad.1 s).1;exact .dA sz rows _ v p n (by rw[l];exact q) (by rw[(ht t hl).1];exact s) hn (by rw[(ht t hl).2];exact hv)
 | mp o h=>rw[←(z o h).1];exact .mp _ (z o h).2
 | xl f cs vs hs h g =>
  simp only[EV.ren,mM];refine .xl f _ vs (by simp_all) λi c u H m=>?_
  rw[zau]at H
  grind
 | agg cs vs hs h1 h g =>
  simp only[EV.ren,mM];refine .agg _ vs (by simp_all) h1 λi c u H m=>?_
  rw[zau]at H
  grind
 | dp cs vs hs h g =>
  simp only[EV.ren,mM];refine .dp _ vs (by simp_all) λi c u H m=>?_
  rw[zau]at H
  grind
 | gd b a v h0 h g=>exact .gd _ _ v h0 g
 | vc t k v s e h=>exact .vc _ _ v (j s) e λx rows hx=>by rw[(ht t s).1]at hx;rw[(ht t s).2];simp_all
 | vp t k i off v s e h=>exact .vp _ _ _ _ v (j s) e λx rows hx=>by rw[(ht t s).1]at hx;rw[(ht t s).2];simp_all
 | vw t k lo n v s e h=>exact .vw _ _ _ _ v (j s) e λx rows hx=>by rw[(ht t s).1]at hx;rw[(ht t s).2];simp_all
structure Part(ρ τ:Nat->Nat)(s0 st:St):Prop where
 aB:∀(o:Nat) (x:jE),s0.aB[o]?=some x->st.aB[ρ o]?=some (x.ren ρ τ)
 ag:∀(t:Nat) (x:ju),s0.ag[t]?=some x->st.ag[τ t]?=some x
 oinj:∀o o',ρ o=ρ o'->o=o'
 tinj:∀t t',τ t=τ t'->t=t'
 ok:∀(o:Nat) (x:jE),s0.aB[o]?=some x->gG s0.aB.length s0.ag.length x=true
def Part.live(h:Part ρ τ s0 st){o}(hl:s0.live o):st.live (ρ o):=by
 obtain⟨x,hx,d⟩:=hl;exact⟨_,h.aB o x hx,λe=>d (jE.WQ e)⟩
def Part.owned(h:Part ρ τ s0 st){b}(H:tg (g.sub ρ τ) s0 b):tg g st b:=by
 rcases H with⟨o,h1,h2⟩|⟨t,x,h1,h2⟩
 .exact .inl ⟨ρ o,h.live h1,h2⟩
 .exact .inr ⟨τ t,x,h.ag t x h1,h2⟩
def Inv.part{base}(h:Inv g base w st)(p:Part ρ τ s0 st):Inv (g.sub ρ τ) base w s0:=by
 refine⟨h.base,λo ty cs hx=>?_,λo es hx=>?_,λo y hx=>h.raw (ρ o) y (p.aB o _ hx),λo o' d h1 h2=>h.ne _ _ (λe=>d (p.oinj o o' e)) (p.live h1) (p.live h2),λt e sz n hx=>h.tail (τ t) e sz n (p.ag t _ hx),
  λt j x x' b d h1 h2=>h.mo _ _ x x' b (λe=>d (p.tinj t j e)) (p.ag t _ h1) (p.ag j _ h2),λt x o h1 h2=>h.gh _ x _ (p.ag t _ h1) (p.live h2),h.tS,λt e sz n rows hx=>h.own (τ t) e sz n rows (p.ag t _ hx)⟩
 .have H:=p.ok o _ hx;simp only[gG,zbf]at H;have a:=p.aB o _ hx;simp only[jE.ren,mM]at a;obtain⟨h1,h2,vs,h3,h4,f⟩:=h.row (ρ o) ty _ a;refine⟨h1,h2,vs,h3,by simp_all,λi c u l r=>?_⟩;have:=f i (c.ren ρ τ) u (by rw[zau,l];rfl) r;exact⟨this.1.down p.ag (H c (zav l)),this.2⟩
 .have H:=p.ok o _ hx;simp only[gG,zbf]at H;have a:=p.aB o _ hx;simp only[jE.ren]at a;obtain⟨h1,ms,c,h3,h4,f,s⟩:=h.map (ρ o) _ a;refine⟨h1,ms,c,h3,by simp_all,λi k x m q E=>?_,s⟩;have:=f i k (x.ren ρ τ) m (by rw[zau,q];rfl) E;exact⟨this.1,this.2.down p.ag (H (k,x) (zav q))⟩
end ren
def kD(st s1:St)(rs ts:List Nat):St:=
 ⟨jK st.aB rs (s1.aB.map (jE.ren (b8 rs st.aB.length) (b8 ts st.ag.length))),jK st.ag ts s1.ag⟩
def Inv.Uy{g g1 w K base st s0 s1 rs ts}(h:Inv g base w st)(hr:R7 rs st.aB.length)(ht:R7 ts st.ag.length)
  (hlr:rs.length=s0.aB.length) (bS:ts.length=s0.ag.length)
  (p:Part (b8 rs st.aB.length) (b8 ts st.ag.length) s0 st) (h1:Inv g1 base K s1) (hs:Step base (g.sub (b8 rs st.aB.length) (b8 ts st.ag.length)) w s0 g1 K s1) :
  ∃g',Inv g' base K (kD st s1 rs ts)/\Step base g w st g' K (kD st s1 rs ts) /\
   ∀x v,aY g1 K s1 x v->aY g' K (kD st s1 rs ts) (x.ren (b8 rs st.aB.length) (b8 ts st.ag.length)) v:=by
 have BF:rs.length<=s1.aB.length:=by rw[hlr];exact hs.cU.aB
 have xx:ts.length<=s1.ag.length:=by rw[bS];exact hs.cU.PF
 generalize hN:st.aB.length=N at *;generalize X:st.ag.length=M at *;generalize Y:b8 rs N=ρ at *;generalize hτ:b8 ts M=τ at *;have WR:kD st s1 rs ts=⟨jK st.aB rs (s1.aB.map (jE.ren ρ τ)),jK st.ag ts s1.ag⟩:=by unfold kD;rw[hN,X,Y,hτ]
 rw[WR];generalize Z:(⟨jK st.aB rs (s1.aB.map (jE.ren ρ τ)),jK st.ag ts s1.ag⟩:St)=S;have G:∀i,S.aB[ρ i]?=(s1.aB[i]?).map (jE.ren ρ τ):=λi=>by
  rw[←Z,←Y];simp only;rw[Au rs _ _ N hN hr (by simp_all) i,zau,Y]
 have r:∀i,S.ag[τ i]?=s1.ag[i]?:=λi=>by
  rw[←Z,←hτ];exact Au ts _ _ M X ht xx i
 have B:∀o,gX rs N o=none->S.aB[o]?=st.aB[o]?:=λo d=>by
  obtain⟨A,k2⟩:=M9 d;rw[←Z];exact rq rs _ _ o (by rw[hN];exact A) λhm=>by
   obtain⟨j,f⟩:=zcr.1 hm;refine k2 j ?_;simp[b8,f]
 have P:∀t,gX ts M t=none->S.ag[t]?=st.ag[t]?:=λt d=>by
  obtain⟨A,k2⟩:=M9 d;rw[←Z];exact rq ts _ _ t (by rw[X];exact A) λhm=>by
   obtain⟨j,f⟩:=zcr.1 hm;refine k2 j ?_;simp[b8,f]
 have hSl:N<=S.aB.length:=by rw[←Z,←hN];show _<=(jK _ _ _).length;rw[As rs _ _ (by simp_all)];omega
 have hSlt:M<=S.ag.length:=by rw[←Z,←X];show _<=(jK _ _ _).length;rw[As ts _ _ xx];omega
 let g':eI:=⟨g1.lim,λo=>match gX rs N o with|some i=>g1.ob i|none=>g.ob o,λt=>match gX ts M t with|some i=>g1.tk i|none=>g.tk t⟩
 have W:∀i,g'.ob (ρ i)=g1.ob i:=λi=>by
  show(match gX rs N (ρ i)with|some i=>g1.ob i|none=>g.ob (ρ i))=_;rw[←Y,FD hr i]
 have l:∀i,g'.tk (τ i)=g1.tk i:=λi=>by
  show(match gX ts M (τ i)with|some i=>g1.tk i|none=>g.tk (τ i))=_;rw[←hτ,FD ht i]
 have Q:∀o,gX rs N o=none->g'.ob o=g.ob o:=λo d=>by
  grind
 have T:∀t,gX ts M t=none->g'.tk t=g.tk t:=λt d=>by
  grind
 have I:∀{o i:Nat},gX rs N o=some i->o=ρ i:=fun {o i} e=>by rw[←Y];exact(Gt e).symm
 have L:∀{t i:Nat},gX ts M t=some i->t=τ i:=fun {t i} e=>by rw[←hτ];exact(Gt e).symm
 have up:∀{x:EV} {v:uB},aY g1 K s1 x v->aY g' K S (x.ren ρ τ) v:=fun {x v} hx=>by
  refine aY.up (λo d=>⟨W o,?_⟩) rfl (λt ht=>⟨r t,l t⟩) hx;have e:=G o;rw[zaf d]at e
  grind
 -- what the call does not own
 have WT:∀b,b<w.heap.size->¬tg (g.sub ρ τ) s0 b->K.heap[b]?=w.heap[b]?/\g1.lim b=g.lim b:=hs.frame;have JA:∀b,b<w.heap.size->tg g1 s1 b->tg (g.sub ρ τ) s0 b:=hs.fresh;have uo:∀o,gX rs N o=none->st.live o->g.ob o<w.heap.size/\¬tg (g.sub ρ τ) s0 (g.ob o):=λo d hl=>by
  refine⟨(h.vJ hl).1,λU=>?_⟩;rcases U with⟨i,s,q⟩|⟨t,x,s,q⟩
  .have D:ρ i≠o:=λe=>by rw[←e,←Y,FD hr i]at d;cases d
   exact h.ne _ _ D (p.live s) hl q
  .exact h.gh _ x o (p.ag t x s) hl q
 have ut:∀t x b,gX ts M t=none->st.ag[t]?=some x->(g.tk t).ownBlock=some b->b<w.heap.size/\¬tg (g.sub ρ τ) s0 b:=λt x b d hx H=>by
  refine⟨(h.vF hx H).2,λU=>?_⟩;rcases U with⟨i,s,q⟩|⟨i,y,s,q⟩
  .exact h.gh t x _ hx (p.live s) (by rw[H];exact zaq some q.symm)
  .have D:τ i≠t:=λe=>by rw[←e,←hτ,FD ht i]at d;cases d
   exact h.mo _ _ y x b D (p.ag i y s) hx q H
 have s0o:∀{o i:Nat},gX rs N o=some i->o<N->i<s0.aB.length:=fun {o i} e d=>by rw[←hlr];exact Jz hr e d
 have s0t:∀{t i:Nat},gX ts M t=some i->t<M->i<s0.ag.length:=fun {t i} e d=>by rw[←bS];exact Jz ht e d
 have O:∀{i:Nat},i<s0.ag.length->∀{x:ju},st.ag[τ i]?=some x->s0.ag[i]?=some x:=fun {i} hi {x} hx=>by
  have e:=p.ag i _ (zaf hi);rw[hx]at e
  grind
 have C:tR g w st g' K S:=by
  refine⟨hs.cU.bp,λo d=>?_,by rw[hN];exact hSl,λt e sz n hx=>?_,by rw[X];exact hSlt,λt x' aT rY hx d=>?_⟩
  .cases hi:gX rs N o with
   | none=>grind
   | some i =>
    have:=I hi;subst this;rw[W,hs.cU.ob i (s0o hi (by omega))];rfl
  .cases hi:gX ts M t with
   | none=>grind
   | some i =>
    have:=L hi;subst this;have xd:=s0t hi (by rw[←X];grind);obtain⟨n',s,q,a3⟩:=hs.cU.ag i e sz n (O xd hx);exact⟨n',by rw[r];exact s,q,λe'=>by rw[l,a3 e'];rfl⟩
  .cases hi:gX ts M t with
   | none =>
    rw[P t hi]at hx
    grind
   | some i =>
    have:=L hi;subst this;have xd:=s0t hi (by omega);rw[r]at hx;obtain⟨x,rows,s,q,a3,a4,a5⟩:=hs.cU.own i x' aT xd hx d;exact⟨x,rows,p.ag i x s,q,a3,a4,λe'=>by rw[l,a5 e'];rfl⟩
 have mK:∀{o i:Nat},gX rs N o=some i->S.live o->s1.live i:=fun {o i} hi ⟨x,hx,D⟩=>by
  have:=I hi;subst this;rw[G]at hx;obtain⟨y,hy,rfl⟩:=zcp.1 hx;exact⟨y,hy,λe=>D (by subst e;rfl)⟩
 have Dv:∀{o:Nat},gX rs N o=none->S.live o->st.live o:=fun {o} hi ⟨x,hx,D⟩=>⟨x,by rw[B o hi]at hx;exact hx,D⟩;refine⟨g',⟨h1.base,?_,?_,?_,?_,?_,?_,?_,h1.tS,?_⟩,⟨C,hs.below,hs.lim,λb H hn=>WT b H λU=>hn (p.owned U),λb H U=>?_⟩,λx v hx=>up hx⟩
 .intro o ty cs hx;cases hi:gX rs N o with
  | none =>
   rw[B o hi]at hx;obtain⟨A,k2,vs,k3,k4,k5⟩:=h.row o ty cs hx;obtain⟨E,F⟩:=uo o hi ⟨_,hx,by simp⟩;obtain⟨f1,f2⟩:=WT _ E F;rw[Q o hi];exact⟨A,f2.trans k2,vs,f1.trans k3,k4,λi c u R hu=>⟨(k5 i c u R hu).1.mono C,(k5 i c u R hu).2⟩⟩
  | some i =>
   have:=I hi;subst this;rw[G]at hx;obtain⟨y,hy,J⟩:=zcp.1 hx;cases y<;>simp only[jE.ren]at J<;>cases J;obtain⟨A,k2,vs,k3,k4,k5⟩:=h1.row i ty _ hy;rw[W];refine⟨A,k2,vs,k3,by rw[mM];grind,λj c u R hu=>?_⟩
   rw[mM,zau]at R
   grind
 .intro o es hx;cases hi:gX rs N o with
  | none =>
   rw[B o hi]at hx;obtain⟨A,ms,c,k3,k4,k5,k6⟩:=h.map o es hx;obtain⟨E,F⟩:=uo o hi ⟨_,hx,by simp⟩;obtain⟨f1,f2⟩:=WT _ E F;rw[Q o hi];exact⟨A,ms,c,f1.trans k3,k4,λi k x m a b=>⟨(k5 i k x m a b).1,(k5 i k x m a b).2.mono C⟩,k6⟩
  | some i =>
   have:=I hi;subst this;rw[G]at hx;obtain⟨y,hy,J⟩:=zcp.1 hx;cases y<;>simp only[jE.ren]at J<;>cases J;obtain⟨A,ms,c,k3,k4,k5,k6⟩:=h1.map i _ hy;rw[W]
   grind
 .intro o y hx;cases hi:gX rs N o with
  | none =>
   rw[B o hi]at hx;obtain⟨A,k2,k3⟩:=h.raw o y hx;obtain⟨E,F⟩:=uo o hi ⟨_,hx,by simp⟩
   grind
  | some i =>
   have:=I hi;subst this;rw[G]at hx;obtain⟨z,hz,MG⟩:=zcp.1 hx;cases z<;>simp only[jE.ren]at MG<;>cases MG;rw[W];exact h1.raw i _ hz
 .intro o o' D d jx;have V:∀{a b i:Nat},gX rs N a=some i->gX rs N b=none->S.live a->S.live b->g'.ob a≠g'.ob b:=fun {a b i} ha H la lb e=>by
   have:=I ha;subst this;rw[W,Q b H]at e;obtain⟨E,F⟩:=uo b H (Dv H lb);exact F (JA _ E (.inl ⟨i,mK ha la,e⟩))
  cases hi:gX rs N o with
  | none =>
   cases f:gX rs N o' with
   | none=>rw[Q o hi,Q o' f];exact h.ne o o' D (Dv hi d) (Dv f jx)
   | some j=>grind
  | some i =>
   cases f:gX rs N o' with
   | none=>grind
   | some j =>
    have l1:=mK hi d;have l2:=mK f jx;have:=I hi;subst this;have:=I f;subst this;rw[W,W];exact h1.ne i j (λe=>D (by rw[e])) l1 l2
 .intro t e sz n hx;cases hi:gX ts M t with
  | none =>
   rw[P t hi]at hx;obtain⟨xs,A,k2⟩:=h.tail t e sz n hx;rw[T t hi];exact⟨xs,ew A λb H=>(WT b (ut t _ b hi hx H).1 (ut t _ b hi hx H).2).1,λb H=>by rw[←k2 b H];grind⟩
  | some i =>
   have:=L hi;subst this;rw[r]at hx;rw[l];exact h1.tail i e sz n hx
 .intro t t' x x' b D hx mF H;have V:∀{a c i:Nat} {x x':ju},gX ts M a=some i->gX ts M c=none->S.ag[a]?=some x->S.ag[c]?=some x'->(g'.tk a).ownBlock=some b->(g'.tk c).ownBlock=some b->False:=fun {a c i x x'} ha R la lc ea ec=>by
   have:=L ha;subst this;rw[l]at ea;rw[T c R]at ec;rw[r]at la;rw[P c R]at lc;obtain⟨E,F⟩:=ut c _ b R lc ec;exact F (JA b E (.inr ⟨i,_,la,ea⟩))
  cases hi:gX ts M t with
  | none =>
   cases f:gX ts M t' with
   | none =>
    rw[T t hi]at H;rw[T t' f];rw[P t hi]at hx;rw[P t' f]at mF;exact h.mo t t' x x' b D hx mF H
   | some j=>grind
  | some i =>
   cases f:gX ts M t' with
   | none=>grind
   | some j =>
    have:=L hi;subst this;have:=L f;subst this;rw[l]at H;rw[l];rw[r]at hx mF;exact h1.mo i j x x' b (λe=>D (by rw[e])) hx mF H
 .intro t x o hx d H;cases hi:gX ts M t with
  | none =>
   rw[T t hi]at H;rw[P t hi]at hx;cases f:gX rs N o with
   | none =>
    rw[Q o f]at H;exact h.gh t x o hx (Dv f d) H
   | some j =>
    have l2:=mK f d;have:=I f;subst this;rw[W]at H;obtain⟨E,F⟩:=ut t _ _ hi hx H;exact F (JA _ E (.inl ⟨j,l2,rfl⟩))
  | some i =>
   have:=L hi;subst this;rw[l]at H;rw[r]at hx;cases f:gX rs N o with
   | none =>
    rw[Q o f]at H;obtain⟨E,F⟩:=uo o f (Dv f d);exact F (JA _ E (.inr ⟨i,_,hx,H⟩))
   | some j =>
    have l2:=mK f d;have:=I f;subst this;rw[W]at H;exact h1.gh i x j hx l2 H
 .intro t e sz n rows hx;cases hi:gX ts M t with
  | none =>
   rw[P t hi]at hx;obtain⟨xs,A,k2,k3⟩:=h.own t e sz n rows hx;rw[T t hi];exact⟨xs,ew A λb H=>(WT b (ut t _ b hi hx H).1 (ut t _ b hi hx H).2).1,λb H=>by rw[←k2 b H];grind,k3.mono C.bp⟩
  | some i =>
   have:=L hi;subst this;rw[r]at hx;rw[l];exact h1.own i e sz n rows hx
 .rcases U with⟨o,s,q⟩|⟨t,x,s,q⟩
  .cases hi:gX rs N o with
   | none=>exact .inl ⟨o,Dv hi s,by rw[←Q o hi];exact q⟩
   | some i =>
    have l1:=mK hi s;have:=I hi;subst this;rw[W]at q;exact p.owned (JA b H (.inl ⟨i,l1,q⟩))
  .cases hi:gX ts M t with
   | none =>
    rw[T t hi]at q;rw[P t hi]at s;exact .inr ⟨t,x,s,q⟩
   | some i =>
    have:=L hi;subst this;rw[l]at q;rw[r]at s;exact p.owned (JA b H (.inr ⟨i,x,s,q⟩))
def sw:List EV->List EV->Prop
 | [],[]=>True
 | e::es,x::xs=>eB e x/\sw es xs
 | _,_=>False
def sw.get:∀{es xs},sw es xs->es.length=xs.length/\∀(i:Nat) x,xs[i]?=some x->∃e,es[i]?=some e/\eB e x
 | [],[],_=>⟨rfl,λi y h=>by simp at h⟩
 | e::es,d::ds,h=>by
  obtain⟨h1,h2⟩:=sw.get h.2;refine⟨by simp[h1],λi z H=>?_⟩;cases i with
  | zero=>simp at H;subst H;exact⟨e,rfl,h.1⟩
  | succ i=>simp_all
 | [],_::_,h=>h.elim
 | _::_,[],h=>h.elim
def bg.le{P f es xs st q}(h:bg P f xs st q)(hle:sw es xs):bg P f es st q:=by
 intro g w base vs hi ha;obtain⟨h1,h2⟩:=hle.get;refine h g w base vs hi ⟨by rw[ha.1,h1],λi x v hx hv=>?_⟩;obtain⟨e,he,hl⟩:=h2 i x hx;exact hl _ _ _ _ (ha.2 i e v he hv)
section call
variable {P:uG}{f:Ctx}{N:Nat}{S:Start}{Q:EV->St->Prop}{k:List Item}{env:Env}{st:St}{ops rest:List Oper}
 {d:Option Tmp} {ty:uE} {pos:String} {after:uD Edge}
def QE(x:EV)(st':St)(e:EV)(s:St):= eB e x/\s=st'
def xy(rs ts:List Nat)(s0 st:St):=
 Ux rs st.aB.length && Ux ts st.ag.length && Nat.beq rs.length s0.aB.length && Nat.beq ts.length s0.ag.length
def Part.of{rs ts s0 st}(h:xy rs ts s0 st=true)(c:s0.aB.all (gG s0.aB.length s0.ag.length)=true)
  (d:rs.map (λr=>st.aB[r]?)=s0.aB.map λx=>some (x.ren (b8 rs st.aB.length) (b8 ts st.ag.length))) (ht:ts.map (λr=>st.ag[r]?)=s0.ag.map some) :
  Part (b8 rs st.aB.length) (b8 ts st.ag.length) s0 st/\R7 rs st.aB.length/\R7 ts st.ag.length/\rs.length=s0.aB.length/\ts.length=s0.ag.length:=by
 simp only[xy,zam]at h;rw[zbf]at c;obtain⟨⟨⟨h1,h2⟩,h3⟩,h4⟩:=h;have H:=R7.of h1;have a:=R7.of h2;have l1:=zai h3;have l2:=zai h4;refine⟨⟨λo x hx=>?_,λt x hx=>?_,λo o' e=>KL H e,λt f e=>KL a e,λo x hx=>c x (zav hx)⟩,H,a,l1,l2⟩
 .have b:o<rs.length:=by rw[l1];grind
  have:=zaq (λl=>l[o]?) d;simp only[zau,(Du H b).2,hx,Option.map_some,Option.some.injEq]at this;exact this
 .have b:t<ts.length:=by rw[l2];grind
  have:=zaq (λl=>l[t]?) ht;simp only[zau,(Du a b).2,hx,Option.map_some,Option.some.injEq]at this;exact this
def bg.frame{f args s0 s1 c}(rs ts)(h:bg P f args s0 (QE c s1))(d:xy rs ts s0 st=true)(j:s0.aB.all (gG s0.aB.length s0.ag.length)=true)(z:args.all (nF s0.aB.length s0.ag.length)=true)
  (k:rs.map (λr=>st.aB[r]?)=s0.aB.map λx=>some (x.ren (b8 rs st.aB.length) (b8 ts st.ag.length))) (ht:ts.map (λr=>st.ag[r]?)=s0.ag.map some) :
  bg P f (args.map (EV.ren (b8 rs st.aB.length) (b8 ts st.ag.length))) st (QE (c.ren (b8 rs st.aB.length) (b8 ts st.ag.length)) (kD st s1 rs ts)):=by
 obtain⟨p,a,l,l1,l2⟩:=Part.of d j k ht;intro g w base vs hi ha;rw[zbf]at z;refine(h (g.sub _ _) w base vs (hi.part p) ⟨by have:=ha.1;simp_all,λi x v hx hv=>?_⟩).mono ?_
 .exact(ha.2 i _ v (by rw[zau,hx];rfl) hv).down p.ag (z x (zav hx))
 .rintro e w' ⟨v,r,s,q,rfl,⟨b,rfl⟩,m,H,n⟩;obtain⟨g',o,k2,k3⟩:=hi.Uy a l l1 l2 p H n.toStep;exact⟨v,_,_,g',rfl,⟨.aW _,rfl⟩,k3 _ _ (b _ _ _ _ m),o,⟨k2.cU,k2.below,k2.lim,k2.frame,k2.fresh⟩⟩
def bg.Dw{f args x st'}(h:bg P f args st λe s=>∃(rs ts:LQ Nat),xy rs ts st' s=true/\st'.aB.all (gG st'.aB.length st'.ag.length)=true/\nF st'.aB.length st'.ag.length x=true/\(Nat.ble st.aB.length rs.length && Nat.ble st.ag.length ts.length)=true /\
   rs.take st.aB.length=List.range st.aB.length/\ts.take st.ag.length=List.range st.ag.length /\
   rs.map (λr=>s.aB[r]?)=st'.aB.map (λy=>some (y.ren (b8 rs s.aB.length) (b8 ts s.ag.length)))/\ts.map (λr=>s.ag[r]?)=st'.ag.map some /\
   eB e (x.ren (b8 rs s.aB.length) (b8 ts s.ag.length))):bg P f args st (QE x st'):=by
 intro g w base vs hi ha;refine(h g w base vs hi ha).mono ?_;rintro e w' ⟨v,r,s,j,rfl,⟨rs,ts,A,B,hx,hl,W,R,C,ht,m⟩,D,d,a⟩;obtain⟨p,E,M,l1,l2⟩:=Part.of A B C ht;simp only[zam]at hl;have F:=zae hl.1;have G:=zae hl.2;have same:∀{l:LQ Nat} {n N:Nat},l.take n=List.range n->n<=l.length->∀i,i<n->b8 l N i=i:=fun {l n N} hl hn i hi=>by
  have e:(l.take n)[i]?=some i:=by rw[hl,List.getElem?_range hi]
  rw[zah,zab hi]at e;simp[b8,e]
 have I:=λi hi=>same (N:=s.aB.length) W F i hi
 have H:=λi hi=>same (N:=s.ag.length) R G i hi
 have z:∀{i:Nat},i<st'.ag.length->st'.ag[i]?=s.ag[b8 ts s.ag.length i]?:=fun {i} hi=>by
  rw[p.ag i _ (zaf hi),zaf hi]
 refine⟨v,x,st',j.sub _ _,rfl,⟨.aW _,rfl⟩,(m _ _ _ _ D).down p.ag hx,d.part p,⟨⟨a.cU.bp,λo k=>?_,(by simp_all),λt e sz n hx=>?_,(by simp_all),λt x' aT c q k=>?_⟩,a.below,a.lim,a.frame,λb J K=>a.fresh b J (p.owned K)⟩⟩
 .show j.ob (b8 rs s.aB.length o)=g.ob o;rw[I o k];exact a.cU.ob o k
 .have c:t<st.ag.length:=(zad.1 hx).1;obtain⟨L,u,a2,a3⟩:=a.cU.ag t e sz n hx;refine⟨L,?_,a2,λe'=>?_⟩
  .rw[z (by omega),H t c];exact u
  .show j.tk (b8 ts s.ag.length t)=g.tk t;rw[H t c]
   grind
 .rw[z (by have:=(zad.1 q).1;exact this),H t c]at q;obtain⟨y,rows,u,a2,a3,a4,a5⟩:=a.cU.own t x' aT c q k;refine⟨y,rows,u,a2,a3,a4,λe'=>?_⟩;show j.tk (b8 ts s.ag.length t)=g.tk t;rw[H t c]
  grind
end call
section call
variable {P:uG}{f:Ctx}{N:Nat}{S:Start}{Q:EV->St->Prop}{k:List Item}{env:Env}{st:St}{ops rest:List Oper}
 {d:Option Tmp} {ty:uE} {pos:String} {after:uD Edge}
def Nd{d x r}(hle:eB x r)(h:bO P f N S Q ops rest k (env.put d r) st):bO P f N S Q ops rest k (env.put d x) st:=by
 cases d with
 | none=>exact h
 | some t =>
  intro i hi g w tmps H c b hn;refine h i hi g w tmps H c (λj y hy=>?_) hn;unfold Env.put lookup at hy;cases a:Nat.beq j t with
  | true =>
   rw[a]at hy;simp only[Option.some.injEq]at hy;subst hy;have:=zai a;subst this;obtain⟨v,h1,h2⟩:=b j x (by unfold Env.put lookup;rw[zef]);exact⟨v,h1,hle _ _ _ _ h2⟩
  | false =>
   rw[a]at hy;exact b j y (by unfold Env.put lookup;rw[a];exact hy)
def bO.Nf{f' l ts MI es x r s0 s1 st'}(F:Enters P f')(a:eE N d=true)(rs tk)
  (h1:y0 env l=some es) (b:bg P f' MI s0 (QE r s1)) (h:sw es (MI.map (EV.ren (b8 rs st.aB.length) (b8 tk st.ag.length))))
  (H:(xy rs tk s0 st && MI.all (nF s0.aB.length s0.ag.length))=true) (c:s0.aB.all (gG s0.aB.length s0.ag.length)=true)
  (e:rs.map (λr=>st.aB[r]?)=s0.aB.map λx=>some (x.ren (b8 rs st.aB.length) (b8 tk st.ag.length))) (ht:tk.map (λr=>st.ag[r]?)=s0.ag.map some)
  (hx:r.ren (b8 rs st.aB.length) (b8 tk st.ag.length)=x) (hs:kD st s1 rs tk=st')
  (hk:bO P f N S Q ops rest k (env.put d x) st') :
  bO P f N S Q ops (⟨d,.call ⟨.value (.func f'),l.toArray,ts⟩,ty,pos,after,none⟩::rest) k env st:=by
 simp only[zam]at H;refine .callS F a h1 ((b.frame rs tk H.1 c H.2 e ht).le h) λy s g=>?_
 obtain⟨h,rfl⟩:=g;rw[hx]at h;rw[hs];exact Nd h hk
def bO.callFC{f' l ts MI es cs x r y s0 s1 st'}(F:Enters P f')(a:eE N d=true)(hy:bp env y=some (.xl f' cs))(rs tk)
  (h1:y0 env l=some es) (b:bg P f' MI s0 (QE r s1)) (h:sw (es++cs) (MI.map (EV.ren (b8 rs st.aB.length) (b8 tk st.ag.length))))
  (H:(xy rs tk s0 st && MI.all (nF s0.aB.length s0.ag.length))=true) (c:s0.aB.all (gG s0.aB.length s0.ag.length)=true)
  (e:rs.map (λr=>st.aB[r]?)=s0.aB.map λx=>some (x.ren (b8 rs st.aB.length) (b8 tk st.ag.length))) (ht:tk.map (λr=>st.ag[r]?)=s0.ag.map some)
  (hx:r.ren (b8 rs st.aB.length) (b8 tk st.ag.length)=x) (hs:kD st s1 rs tk=st')
  (hk:bO P f N S Q ops rest k (env.put d x) st') :
  bO P f N S Q ops (⟨d,.call ⟨.value y,l.toArray,ts⟩,ty,pos,after,none⟩::rest) k env st:=by
 simp only[zam]at H;have g:=(b.frame rs tk H.1 c H.2 e ht).le h;refine .Bo F a hy h1 g λy s i=>?_
 obtain⟨h,rfl⟩:=i;rw[hx]at h;rw[hs];exact Nd h hk
end call
def okArr{n m T}{α:Type}{l:LQ α}{c1:α->D}:gG n m (.row T (l.map λb=>EV.d (c1 b)))=true:=by simp[gG,nF]
theorem bV{n m x l}(h1:gG n m x=true)(h2:l.all (gG n m)=true):(x::l).all (gG n m)=true:=by
 simp_all
def Dx{a b}(h1:a=true)(h2:b=true):(a && b)=true:=by rw[h1,h2];rfl
section tok
variable {P:uG}{f:Ctx}{N:Nat}{S:Start}{Q:EV->St->Prop}{k:List Item}{todo:List Item}{env:Env}{st:St}{ops rest:List Oper}
def Inv.BG{g base w o ci T cs}(h:Inv g base w st)(l:st.aB[o]?=some (.row T cs))(n:cs[ci]?=some (.d (.ex (.slice none 0 0))))(e sz:Nat):
  ∃g',Inv g' base w ((st.tok ⟨e,sz,0,none⟩).set o (.row T (cs.set ci (.dA sz [] st.ag.length))))/\Step base g w st g' w ((st.tok ⟨e,sz,0,none⟩).set o (.row T (cs.set ci (.dA sz [] st.ag.length)))):=by
 obtain⟨p,h1,h2,h3⟩:=h.PT e sz;have I:(st.tok ⟨e,sz,0,none⟩).aB[o]?=some (.row T cs):=l;obtain⟨b1,b2,vs,q,r,j⟩:=h2.row o T cs I;obtain⟨hi,hs⟩:=h2.setBlock (o:=o) (x:=.row T (cs.set ci (.dA sz [] st.ag.length))) (w':=w) ⟨_,I,by simp⟩ b2 rfl (λ_ _=>rfl) rfl rfl rfl
  (λa K v m=>by
   cases m;refine⟨vs,q,by simp_all,λi c u H k=>?_⟩;rw[zbg]at H;split at H
   .rename_i b;subst b;split at H
    .cases H;have h0:=j ci _ u n k;refine⟨?_,h0.2⟩;have f:u=.slice none 0 0:=h0.1.aO;subst f;exact .dA sz [] _ _ e 0 (.nil sz _) (by simp[St.tok,St.set]) (zag _) (λ_=>.inl h1.symm)
    grind
   .have h0:=j i c u H k;exact⟨h0.1.mono a,h0.2⟩) (λ_ es m=>by cases m)
 exact⟨p,hi,h3.trans hs⟩
def aE.BG{o ci T cs}{e sz:Nat}(a:st.aB[o]?=some (.row T cs))(b:cs[ci]?=some (.d (.ex (.slice none 0 0))))
  (h:aE P f N S Q todo env ((st.tok ⟨e,sz,0,none⟩).set o (.row T (cs.set ci (.dA sz [] st.ag.length))))):aE P f N S Q todo env st:=by
 intro g w tmps H c i hn;obtain⟨g',h1,h2⟩:=H.BG a b e sz;exact h g' w tmps h1 (c.step h2) (i.mono h2.cU) hn
end tok
def nH(l:List uA)(p:Nat):= Utf8.decode ⟨l.toArray⟩ p
def BH(l:List uA)(p:Nat):D:=if p<l.length then .dp [cB true,cI p,.ex (.int .i32 (nH l p).1)]else .dp [cB false]
def zN(l:List uA)(p:Nat):= if p<l.length then p+(nH l p).2 else p
def KP{l p}(h:p<l.length)(ha:(nth l p).toNat<128):nH l p=((nth l p).toNat,1):=by
 have hs:p<(⟨l.toArray⟩:ByteArray).size:=h;have e:((⟨l.toArray⟩:ByteArray)[p]'hs)=nth l p:=by rw[cV h];rfl
 unfold nH;rw[decode_ascii _ p hs (by rw[e];exact ha),e]
def Ng{l p}(h:p<l.length)(ha:128<=(nth l p).toNat):128<=(nH l p).1:=by
 have hs:p<(⟨l.toArray⟩:ByteArray).size:=h;have e:((⟨l.toArray⟩:ByteArray)[p]'hs)=nth l p:=by rw[cV h];rfl
 exact(decode_high _ p hs (by rw[e];exact ha)).1
section rules
variable {P:uG}{base:Nat}{env:Env}{st:St}{d:Option Tmp}{ty:uE}{pos:String}{after:uD Edge}{gd:Option (Nat×Bool)}{t:uE}{x:uH}
def v_range{l}(ht:P.underlying t=some .string)(hx:bp env x=some (.d (cS l))):uL P base env st ⟨d,.range t x,ty,pos,after,gd⟩ (.ref st.aB.length 0) (st.add (.raw (.stringIter ⟨l.toArray⟩ 0))):=by
 intro g w tmps H a;have hv:=kC (by cases aq a hx with|d _ _ h=>exact h);obtain⟨g',hi,hs,z⟩:=H.newObj (.raw (.stringIter ⟨l.toArray⟩ 0)) (.stringIter ⟨l.toArray⟩ 0) (λK v e=>by cases e) (λes e=>by cases e) (λy e=>by grind);refine⟨.pointer (some ⟨w.heap.size,0,none⟩),g',_,?_,?_,hi,hs⟩
 .simp only[execOp];rw[hv];simp[run_range_string w t _ ht,World.iter]
 .rw[←z];exact .ref _ _ (by simp[St.add])
def v_next{o p l}(hx:bp env x=some (.ref o 0))(q:st.aB[o]?=some (.raw (.stringIter ⟨l.toArray⟩ p))):uL P base env st ⟨d,.next x true,ty,pos,after,gd⟩ (.d (BH l p)) (st.set o (.raw (.stringIter ⟨l.toArray⟩ (zN l p)))):=by
 intro g w tmps f r;have h:=aq r hx;generalize hv:Act.eval ⟨tmps,[]⟩ x=v at h;cases h with
 | ref _ _ t =>
  obtain⟨z,hl,I⟩:=f.raw o _ q;obtain⟨k,m⟩:=f.setBlock (o:=o) (x:=.raw (.stringIter ⟨l.toArray⟩ (zN l p))) (w':={ w with heap:=w.heap.setIfInBounds (g.ob o) (.stringIter ⟨l.toArray⟩ (zN l p)) })
   ⟨_,q,by simp⟩ hl (by simp) (λb A=>by grind) rfl rfl rfl (λ_ K B e=>by cases e) (λ_ es e=>by cases e)
   (λy e=>by
    grind)
  by_cases j:p<l.length
  .refine⟨.tuple #[.bool true,.int .i64 p,.int .i32 ((nH l p).1:Int)],g,_,?_,?_,k,m⟩
   .have n:p<(⟨l.toArray⟩:ByteArray).size:=j;simp only[execOp,hv];simp[Instr.next,getObj,setObj,Sem.run,I,n,goInt,zN,j,nH]
   .unfold BH;rw[zab j];refine .d _ _ (.dp _ _ rfl λi c u H a=>?_)
    match i with
    | 0=>simp at H a;subst H a;exact .ex _
    | 1=>simp at H a;subst H a;exact .ex _
    | 2=>simp at H a;subst H a;exact .ex _
    | i+3=>simp at H
  .have e:zN l p=p:=by unfold zN;rw[zaa j]
   rw[e]at k m ⊢;have s:({ w with heap:=w.heap.setIfInBounds (g.ob o) (.stringIter ⟨l.toArray⟩ p) }:uC)=w:=by
    have:w.heap.setIfInBounds (g.ob o) (.stringIter ⟨l.toArray⟩ p)=w.heap:=by
     grind
    rw[this]
   rw[s]at k m;refine⟨.tuple #[.bool false],g,w,?_,?_,k,m⟩
   .have n:¬p<(⟨l.toArray⟩:ByteArray).size:=j;simp only[execOp,hv];simp[Instr.next,getObj,Sem.run,I,n]
   .unfold BH;rw[zaa j];refine .d _ _ (.dp _ _ rfl λi c u H a=>?_)
    match i with
    | 0=>simp at H a;subst H a;exact .ex _
    | i+1=>simp at H
def mN{o off}(hx:bp env x=some (.ref o off)):aG P env st ⟨d,.nilCheck x,ty,pos,after,gd⟩ (.ref o off):=λg base w tmps hi H=>by
 have h:=aq H hx;generalize hv:Act.eval ⟨tmps,[]⟩ x=v at h;cases h with
 | ref _ _ b=>exact⟨_,.ref _ _ b,λw' _=>by simp[execOp,hv]⟩
def nextD_0{l p}:∃cs,BH l p=.dp cs/\cs[0]?=some (cB (decide (p<l.length))):=by
 unfold BH;split
 .simp_all
 simp_all
def WU{l p}(hx:bp env x=some (.d (BH l p))):aG P env st ⟨d,.extract x 0,ty,pos,after,gd⟩ (.d (cB (decide (p<l.length)))):=by
 obtain⟨cs,h1,h2⟩:=nextD_0 (l:=l) (p:=p);rw[h1]at hx;exact yI hx h2
def Qa{l p}(h:p<l.length)(hx:bp env x=some (.d (BH l p))):aG P env st ⟨d,.extract x 2,ty,pos,after,gd⟩ (.d (.ex (.int .i32 (nH l p).1))):=by
 unfold BH at hx;rw[zab h]at hx;exact yI hx rfl
end rules
section rep
variable {g:eI}{base:Nat}{w:uC}{st:St}
def qu(h:Inv g base w st){t e sz n:Nat}{rows v}(d:st.ag[t]?=some ⟨e,sz,n,some rows⟩)(hv:aY g w st (.vc t n) v):
  v=g.tk t∨n=0/\rows=[]/\∃A,v=.slice A 0 0:=by
 cases hv with
 | vc _ _ _ ht a H =>
  rcases(H _ rows d rfl).2 rfl with h1|⟨h1,h3⟩
  .grind
  .obtain⟨xs,_,_,k⟩:=h.own t e sz n rows d;exact .inr ⟨h1,zax (by rw[k.len];exact h1),h3⟩
def Gv(h:Inv g base w st){t e sz n:Nat}{rows v}(d:st.ag[t]?=some ⟨e,sz,n,some rows⟩)(hv:v=g.tk t):
  v=g.tk t/\∃xs,w.ownsRow base e sz v n xs/\(∀b,v.ownBlock=some b->g.lim b=0)/\bY g.lim w sz n rows xs:=by
 subst hv;exact⟨rfl,h.own t e sz n rows d⟩
def WV{t e sz:Nat}{rows v}(b:t<st.ag.length)(d:st.ag[t]?=some ⟨e,sz,0,some rows⟩)(hv:∃A,v=.slice A 0 0):aY g w st (.vc t 0) v:=
 .vc t 0 _ b (by grind) λx aT hx h=>by rw[d]at hx;cases hx;exact⟨zag _,λ_=>.inr ⟨rfl,hv⟩⟩
def fY{w:uC}{base e sz n:Nat}{v xs}(h:w.ownsRow base e sz v n xs):(∃A c,v=.slice A n c)/\(n≠0->∃b c,v=.slice (some ⟨b,0,none⟩) n c):=by
 rcases h.2 with⟨rfl,rfl⟩|⟨b,cap,H,rfl,_⟩
 .simp_all
 simp_all
def bY.get{lim sz n rows xs}(h:bY lim w sz n rows xs)(hx:xs.length=n*sz){i j row c}(hi:rows[i]?=some row)(H:row[j]?=some c):
  ∃u,xs[i*sz+j]?=some u/\cq lim w c u/\u.oneCell'=true:=by
 have hl:=h.row row (zav hi);have b:i*sz+j<xs.length:=by
  rw[hx,←h.len];exact Kt (zad.1 hi).1 (by rw[←hl];grind)
 exact⟨_,zaf b,h.rep _ c _ (ig h.row hi H) (zaf b)⟩
def JB{P}{e sz n:Nat}{b cap xs}(h:w.ownsRow base e sz (.slice (some ⟨b,0,none⟩) n cap) n xs) off new(G:off+new.length<=n*sz)(h1:∀v∈new,v.oneCell'=true):
  ∃w',(storeCells ⟨b,off,none⟩ new 0).run P w=.ok () w'/\w'.ownsRow base e sz (.slice (some ⟨b,0,none⟩) n cap) n (xs.take off++new++xs.drop (off+new.length))/\w.grownBy w' (some b)/\w'.heap.size=w.heap.size:=by
 rcases h.2 with⟨h',_⟩|⟨g',H,c,h',d,a,D,A,s,M⟩
 .cases h'
 .cases h';have hle:n*sz<=cap*sz:=zbn _ D;have g:=run_storeCells_at P b off e new 0 c w a (by omega) h1;simp only[zct]at g;refine⟨_,g,⟨?_,.inr ⟨b,cap,_,rfl,d,setRow_heap w b c _ e (0,0) a,D,A,?_,?_⟩⟩,⟨rfl,rfl,rfl,by simp,λk _ hk=>setRow_other w b k _ (λe=>hk (by rw[e]))⟩,by simp⟩
  .have:=h.1
   grind
  .grind
  .have hx:=h.1;apply zbv
   grind
def Qb{lim sz n rows xs us}(h:bY lim w sz n rows xs)(hx:xs.length=n*sz){i off row new}(hi:rows[i]?=some row)(s:off+new.length<=sz)
  (hu:us.length=new.length) (E:∀(j:Nat) c u,new[j]?=some c->us[j]?=some u->cq lim w c u/\u.oneCell'=true) :
  bY lim w sz n (rows.set i (row.take off++new++row.drop (off+new.length))) (xs.take (i*sz+off)++us++xs.drop (i*sz+off+us.length)):=by
 have z:=h.row row (zav hi);have D:i<rows.length:=(zad.1 hi).1;have V:(row.take off++new++row.drop (off+new.length)).length=sz:=by grind
 have f:∀r,r∈rows.set i (row.take off++new++row.drop (off+new.length))->r.length=sz:=λr B=>by
  rcases List.mem_or_eq_of_mem_set B with h1|h1
  .exact h.row r h1
  simp_all
 refine⟨by simpa using h.len,f,λj c u g A=>?_⟩;have C:=eK f;have P:j<n*sz:=by rw[←h.len];have:=(zad.1 g).1;rw[C]at this;simp_all
 have dE:0<sz:=by
  grind
 have M:j=(j / sz)*sz+j % sz:=by rw[zda];exact(zeg j sz).symm
 have t:j / sz<rows.length:=by rw[h.len];exact zdg (by rw[zda];exact P)
 have v:j % sz<sz:=zdq _ dE;have F:i*sz+off+us.length<=n*sz:=by
  have:(i+1)*sz<=n*sz:=zbn _ (by rw[←h.len];omega);rw[zcu]at this;omega
 by_cases a:j / sz=i
 .-- in the row that is written
  have l:(rows.set i (row.take off++new++row.drop (off+new.length)))[j / sz]?=some (row.take off++new++row.drop (off+new.length)):=by rw[a,zbg,zab rfl,zab D]
  have k:=ig f l (zaf (show j % sz<_ by rw[V];exact v));rw[←M,g]at k;have H:(row.take off++new++row.drop (off+new.length))[j % sz]?=some c:=by grind
  rw[a]at M;by_cases h1:j % sz<off
  .rw[zas,zaj (by grind),zah,zab h1]at H;rw[zas,zaj (by grind),zah,zab (by omega)]at A;obtain⟨x,b,y⟩:=h.get hx hi H;rw[←M,A]at b
   grind
  .by_cases h2:j % sz<off+new.length
   .rw[zas,zan (by grind),zaj (by grind)]at H;rw[zas,zan (by grind),zaj (by grind)]at A;have m:(List.take off row).length=off:=by grind
    have e:(List.take (i*sz+off) xs).length=i*sz+off:=by grind
    rw[m]at H;rw[e]at A;have o:j-(i*sz+off)=j % sz-off:=by omega
    rw[o]at A
    grind
   .rw[zan (by simp;omega)]at H A;have m:(List.take off row++new).length=off+new.length:=by grind
    have e:(List.take (i*sz+off) xs++us).length=i*sz+off+us.length:=by grind
    rw[m,zbd]at H;rw[e,zbd]at A;have o:off+new.length+(j % sz-(off+new.length))=j % sz:=by omega
    have p:i*sz+off+us.length+(j-(i*sz+off+us.length))=j:=by omega
    rw[o]at H;rw[p]at A;obtain⟨x,b,y⟩:=h.get hx hi H;rw[←M,A]at b
    grind
 .have l:(rows.set i (row.take off++new++row.drop (off+new.length)))[j / sz]?=some rows[j / sz]:=by rw[zbg,zaa (zcq a)];grind
  have d:=h.row rows[j / sz] (zft t);have k:=ig f l (zaf (show j % sz<_ by rw[d];exact v));rw[←M,g]at k;have H:rows[j / sz][j % sz]?=some c:=by grind
  have q:xs[j]?=some u:=by
   by_cases h1:j<i*sz+off
   .rw[zas,zaj (by grind),zah,zab h1]at A;exact A
   .have:¬j<i*sz+off+us.length:=by
     intro h2;apply a;have h3:j<(i+1)*sz:=by rw[zcu];omega
     have h4:i*sz<=j:=by omega
     exact Nat.le_antisymm (Nat.le_of_lt_succ (zdg (by rw[zda];exact h3))) ((Nat.le_div_iff_mul_le dE).2 h4)
    rw[zan (by grind)]at A;have e:(List.take (i*sz+off) xs++us).length=i*sz+off+us.length:=by grind
    rw[e,zbd]at A;have p:i*sz+off+us.length+(j-(i*sz+off+us.length))=j:=by omega
    rw[p]at A;exact A
  obtain⟨x,b,y⟩:=h.get hx (zaf t) H;rw[←M,q]at b
  grind
end rep
section rules
variable {P:uG}{f:Ctx}{N:Nat}{S:Start}{Q:EV->St->Prop}{k:List Item}{todo:List Item}{base:Nat}{env:Env}{st:St}{ops rest:List Oper}
 {d:Option Tmp} {ty:uE} {pos:String} {after:uD Edge} {gd:Option (Nat×Bool)} {t t2 e:uE} {x y z:uH}
def aE.lenV{α:Type}{tk:Nat}{e sz n:Nat}{l:LQ α}{row}(d:st.ag[tk]?=some ⟨e,sz,n,some (l.map row)⟩)(h:n=l.length->aE P f N S Q todo env st):aE P f N S Q todo env st:=by
 intro g w tmps H;obtain⟨xs,_,_,h3⟩:=H.own tk e sz n _ d;exact h (by have:=h3.len;simp_all) g w tmps H
def Inv.freeze{g w}{tk e sz n:Nat}{rows}(h:Inv g base w st)(d:st.ag[tk]?=some ⟨e,sz,n,some rows⟩):
  ∃g',g'.tk tk=g.tk tk/\Inv g' base w (st.aQ tk ⟨e,sz,n,none⟩)/\Step base g w st g' w (st.aQ tk ⟨e,sz,n,none⟩)/\cq g'.lim w (.sl sz rows) (g.tk tk):=by
 obtain⟨xs,h1,h2,h3⟩:=h.own tk e sz n rows d;obtain⟨g',k,k2,k3,k4⟩:=h.xn (x':=⟨e,sz,n,none⟩) (v':=g.tk tk) (w':=w) d h1 (.inl ⟨rfl,rfl,⟨rfl,rfl,rfl,zag _,λ_ _ _=>rfl⟩⟩) (λH=>by cases H) (λrows _ aT H=>by cases H) (λrows H=>by cases H);refine⟨g',k,k3,k4,Kx h1 h3.len h3.row (λb i=>by rw[k2 b i,rZ rfl];simp_all) λj u c a f=>?_⟩;exact⟨(h3.rep j c u f a).1.mono k4.cU.bp,(h3.rep j c u f a).2⟩
def aE.freeze{i tk e sz n:Nat}{rows}(hl:lookup i env=some (.vc tk n))(d:st.ag[tk]?=some ⟨e,sz,n,some rows⟩)
  (h:aE P f N S Q todo ((i,.dA sz rows tk)::env) (st.aQ tk ⟨e,sz,n,none⟩)):aE P f N S Q todo env st:=by
 intro g w tmps H c b k;obtain⟨g',h1,h2,h3,h4⟩:=H.freeze d;refine h g' w tmps h2 (c.step h3) (λj y hy=>?_) k;unfold lookup at hy;have l:=b.mono h3.cU;cases a:Nat.beq j i with
 | true =>
  rw[a]at hy;cases hy;have:=zai a;subst this;obtain⟨v,m1,m2⟩:=b j _ hl;have hlen:tk<st.ag.length:=(zad.1 d).1;obtain⟨xs,o1,_,o⟩:=H.own tk e sz n rows d;rcases qu H d m2 with hv|⟨m,r,A,hv⟩
  .subst hv;exact⟨_,m1,.dA sz rows tk _ e n h4 (by simp[St.aQ,zbg,hlen]) (zex o.len) (λ_=>.inl h1.symm)⟩
  .subst m;subst r;subst hv;exact⟨_,m1,.dA sz [] tk _ e 0 (.nil sz _) (by simp[St.aQ,zbg,hlen]) (zag _) (λ_=>.inr ⟨rfl,_,rfl⟩)⟩
 | false =>
  rw[a]at hy;exact l j y hy
def aE.Uz{i}{e sz:Nat}(hx:lookup i env=some (.d (.ex (.slice none 0 0))))(h:aE P f N S Q todo ((i,.vc st.ag.length 0)::env) (st.tok ⟨e,sz,0,some []⟩)):aE P f N S Q todo env st:=by
 intro g w tmps H c b k;obtain⟨g',h1,_,_,h2,h3⟩:=H.tn ⟨e,sz,0,some []⟩ (World.ownsRow_nil w S.base _ _) (.inl ⟨rfl,rfl⟩) (λrows l=>by cases l;exact⟨rfl,by simp,by simp⟩);refine h g' w tmps h2 (c.step h3) (λj y hy=>?_) k;unfold lookup at hy;cases a:Nat.beq j i with
 | true =>
  rw[a]at hy;cases hy;have:=zai a;subst this;obtain⟨v,m1,m2⟩:=b j _ hx;have hv:=m2.aO;subst hv;refine⟨_,m1,.vc _ _ _ (by simp[St.tok]) ⟨_,_,_,rfl⟩ λx rows hx m=>?_⟩;have:x=⟨e,sz,0,some []⟩:=by simpa[St.tok,eq_comm] using hx
  simp_all
 | false =>
  rw[a]at hy;exact(b.mono h3.cU) j y hy
section sl
variable {α:Type}{sz:Nat}{row:α->List D}{l:List α}{ev:EV}{inf:TypeInfo}{tk n:Nat}
def xz(ht:P.underlying t=some (.slice e))(hx:bp env x=some (.vc tk n)){e':Nat}(H:st.ag[tk]?=some ⟨e',sz,n,some (l.map row)⟩):
  aG P env st ⟨d,.call ⟨.builtin .len,#[x],#[t]⟩,ty,pos,after,gd⟩ (.d (cI l.length)):=λg base w tmps h a=>by
 rcases qu h H (aq a hx)with F|⟨b,r,A,hv⟩
 .obtain⟨_,xs,h2,_,h4⟩:=Gv h H F;obtain⟨⟨A,c,hv⟩,_⟩:=fY h2;have hn:n=l.length:=by have:=h4.len;simp_all
  rw[←hn];exact⟨_,.d _ _ (.ex _),λw' _=>Bn ht hv w'⟩
 .have hl:l=[]:=by simp_all
  subst hl;exact⟨_,.d _ _ (.ex _),λw' _=>Bn ht hv w'⟩
def kT[Inhabited α]{kk i}{e':Nat}(ht:P.underlying t=some (.slice e))(hi:P.info? e=some inf)(dE:inf.size=sz)(hx:bp env x=some (.vc tk n))(f:st.ag[tk]?=some ⟨e',sz,n,some (l.map row)⟩)(hy:bp env y=some (.d (.ex (.int kk i))))(h:0<=i/\i<l.length):
  aG P env st ⟨d,.indexAddr t x y,ty,pos,after,gd⟩ (.vp tk n i.toNat 0):=λg base w tmps H j=>by
 have a:Act.eval ⟨tmps,[]⟩ x=g.tk tk:=by
  rcases qu H f (aq j hx)with F|⟨k,r,A,hv⟩
  .exact F
  .have hl:l=[]:=by simp_all
   rw[hl]at h;grind
 obtain⟨F,xs,h2,_,h4⟩:=Gv H f a;have hn:n=l.length:=by have:=h4.len;simp_all
 obtain⟨b,c,hv⟩:=(fY h2).2 (by omega);have hlen:tk<st.ag.length:=(zad.1 f).1;subst dE;refine⟨.pointer (some ⟨b,i.toNat*inf.size,none⟩),.vp _ _ _ _ _ hlen ⟨_,_,rfl⟩ λx rows hx m=>?_,λw' _=>?_⟩
 .rw[f]at hx
  grind
 .have:=yG (d:=d) (ty:=ty) (pos:=pos) (after:=after) (gd:=gd) ht hi hv (aq j hy).aO h.1 (by omega) w';rw[Addr.add_lit,zbh]at this;exact this
def UA{s f off i o}(c:mI P s f=some off)(hx:bp env x=some (.vp tk n i o)):
  aG P env st ⟨d,.fieldAddr s x f,ty,pos,after,gd⟩ (.vp tk n i (o+off)):=λg base w tmps a e=>by
 have h:=aq e hx;generalize hv:Act.eval ⟨tmps,[]⟩ x=v at h;cases h with
 | vp _ _ _ _ _ ht H j =>
  obtain⟨b,o',rfl⟩:=H;refine⟨.pointer (some ⟨b,o'+off,none⟩),.vp _ _ _ _ _ ht ⟨_,_,rfl⟩ λx rows hx k=>?_,λw' _=>by simp[execOp,hv,ox c,Addr.add_lit]⟩
  grind
def Gw{g w}{i o e':Nat}{v r rows}(hinv:Inv g base w st)(d:st.ag[tk]?=some ⟨e',sz,n,some rows⟩)(hv:aY g w st (.vp tk n i o) v)(e:rows[i]?=some r):
  ∃b c xs,g.tk tk=.slice (some ⟨b,0,none⟩) n c/\v=.pointer (some ⟨b,i*sz+o,none⟩)/\w.ownsRow base e' sz (.slice (some ⟨b,0,none⟩) n c) n xs/\g.lim b=0/\bY g.lim w sz n rows xs/\b<w.heap.size /\
   ∀j H,r[j]?=some H->∃u,w.cell? ⟨b,i*sz+j,none⟩=some u/\xs[i*sz+j]?=some u/\cq g.lim w H u/\u.oneCell'=true:=by
 cases hv with
 | vp _ _ _ _ _ ht f h =>
  obtain⟨b,m,c,a,k⟩:=(h _ rows d rfl).2 rfl;obtain⟨xs,h1,h2,h3⟩:=hinv.own tk e' sz n rows d;rw[a]at h1 h2;have hm:m=n:=by
   rcases h1.2 with⟨h,_⟩|⟨_,_,_,h,_⟩
   .cases h
   simp_all
  subst hm;refine⟨b,c,xs,a,k,h1,h2 b rfl,h3,(h1.lt b rfl).2,λj H l=>?_⟩;obtain⟨u,p,k2⟩:=h3.get h1.1 e l;have:=h1.cells (g:=b) rfl _ u p;rw[Addr.add_lit,zbh]at this;simp_all
def xA[Inhabited α]{i o e':Nat}{c}(h1:(P.underlying t).map qH=some true)(hx:bp env x=some (.vp tk n i o))(H:st.ag[tk]?=some ⟨e',sz,n,some (l.map row)⟩)(hi:i<l.length)(a:(row (nth l i))[o]?=some c):
  aG P env st ⟨d,.load t x,ty,pos,after,gd⟩ (.d c):=λg base w tmps h e=>by
 obtain⟨b,r,xs,s,f,v,y,z,j,k⟩:=Gw h H (aq e hx) (Dp hi);obtain⟨u,m,k2,k3,k4⟩:=k o c a;refine⟨u,.d _ _ k3,λw' q=>?_⟩;have:=(q.cell (p:=⟨b,i*sz+o,none⟩) j).trans m;simp[execOp,f,Instr.loadAt,Instr.sureAddr,loadVar,uM h1,this]
def kg[Inhabited α]{i o e' m:Nat}{cs}(h1:(P.underlying t).map qH=some false)(hs:(P.info? t).map (·.size)=some m)(hx:bp env x=some (.vp tk n i o))(k:st.ag[tk]?=some ⟨e',sz,n,some (l.map row)⟩)(hi:i<l.length)
  (hm:o+m<=sz) (q:((row (nth l i)).drop o).take m=cs):aG P env st ⟨d,.load t x,ty,pos,after,gd⟩ (.d (.agg cs)):=λg base w tmps H r=>by
 obtain⟨b,G,xs,I,s,v,J,e,y,L⟩:=Gw H k (aq r hx) (Dp hi);have z:(row (nth l i)).length=sz:=e.row _ (zav (Dp hi));have hl:cs.length=m:=by rw[←q];grind
 let us:LQ uB:=(xs.drop (i*sz+o)).take m
 have U:∀j u,us[j]?=some u->j<m/\xs[i*sz+(o+j)]?=some u:=λj u h=>by
  grind
 have A:∀j,j<m->∃c u,cs[j]?=some c/\us[j]?=some u/\w.cell? ⟨b,i*sz+o+j,none⟩=some u/\cq g.lim w c u/\u.oneCell'=true:=λj f=>by
  have M:(row (nth l i))[o+j]?=some ((row (nth l i))[o+j]'(by omega)):=zaf _
  grind
 have a:us.length=m:=by
  have h1:=v.1;have D:i<n:=by have:=e.len;simp_all
  have h2:(i+1)*sz<=n*sz:=zbn _ D;rw[zcu]at h2
  grind
 refine⟨.agg us.toArray,.d _ _ (.agg _ _ (by simp_all) (λj u h=>?_) (λj c u N h=>?_)),λw' B=>?_⟩
 .grind
 .grind
 .obtain⟨inf,C,K⟩:∃inf,P.info? t=some inf/\inf.size=m:=by
   simp_all
  have F:=kb (P:=P) (w:=w') (b:=b) (off:=i*sz+o) a (λj u h=>by
   obtain⟨f,_⟩:=U j u h;obtain⟨c,O,b1,b2,E,Q,R⟩:=A j f;rw[b2]at h;cases h;exact(B.cell (p:=⟨b,i*sz+o+j,none⟩) y).trans E)
  simp[execOp,s,Instr.loadAt,Instr.sureAddr,loadVar,yH h1,sizeOf,typeInfo,C,K,F]
def BI[Inhabited α]{i o e' m:Nat}{new a}(hx:bp env x=some (.vp tk n i o))(p:st.ag[tk]?=some ⟨e',sz,n,some (l.map row)⟩)(hi:i<l.length)(hy:bp env y=some ev)(B:cellsD ev=some new)
  (hs:(P.info? t).map (·.size)=some m) (hm:new.length=m) (C:o+m<=sz) (ha:(row (nth l i)).take o++new++(row (nth l i)).drop (o+new.length)=row a) :
  ID P base env st ⟨d,.store t x y,ty,pos,after,gd⟩ (st.aQ tk ⟨e',sz,n,some ((l.set i a).map row)⟩):=by
 intro g w tmps H q;obtain⟨b,Q,xs,r,D,s,R,z,S,T⟩:=Gw H p (aq q hx) (Dp hi);have h:=iE B (aq q hy);generalize E:Act.eval ⟨tmps,[]⟩ y=u at h;have f:u.cells.toList.length=new.length:=by simpa using h.1
 have F:i<n:=by have:=z.len;simp_all
 have h2:(i+1)*sz<=n*sz:=zbn _ F;rw[zcu]at h2;have U:∀v∈u.cells.toList,v.oneCell'=true:=λv hv=>by
  obtain⟨j,G⟩:=zcr.1 hv;have V:=(zad.1 G).1;exact(h.2 j new[j] v (zaf (by omega)) (by simp_all)).2
 obtain⟨w',I,k2,k3,k4⟩:=JB (P:=P) s (i*sz+o) u.cells.toList (by omega) U;have A:=Qb (us:=u.cells.toList) (new:=new) (off:=o) z s.1 (Dp hi) (by omega) f (λj c v J hv=>h.2 j c v J (by simp_all));rw[ha]at A;have K:(l.map row).set i (row a)=(l.set i a).map row:=by rw[List.map_set]
 rw[K]at A;obtain⟨g',q1,q2,L,M⟩:=H.xn (x':=⟨e',sz,n,some ((l.set i a).map row)⟩) (v':=g.tk tk) (w':=w') p (by rw[r];exact k2) (.inl ⟨rfl,k4,by rw[r];exact k3⟩) (λe=>by cases e) (λrows _ aT _=>⟨rfl,zag _,λ_=>rfl⟩) (λrows e=>by grind)
 refine⟨g',w',?_,L,M⟩;obtain⟨inf,N,O⟩:∃inf,P.info? t=some inf/\inf.size=m:=by
  cases e:P.info? t with
  | none=>rw[e]at hs;cases hs
  | some inf=>rw[e]at hs;grind
 have k:u.cells.size=m:=by have:=h.1;omega
 simp[execOp,E,D,Instr.storeAt,Instr.sureAddr,storeVar,sizeOf,typeInfo,N,O,k,I]
def R8{z n kc a b a0}(ht:P.underlying t=some (.slice e))(hi:P.info? e=some inf)(v:inf.zero=some z)(dE:inf.size=sz)(A:z.cells.size=sz)(C:inf.bytes<=100000)
  (M:cellsD (.d (cv z))=some (row a0)) (hx:bp env x=some (.d (.ex (.int n a)))) (hy:bp env y=some (.d (.ex (.int kc b)))) (h:0<=a/\a<=b/\b<=1000000000) :
  uL P base env st ⟨d,.makeSlice t x y,ty,pos,after,gd⟩ (.vc st.ag.length (List.replicate a.toNat a0).length) (st.tok ⟨e,sz,(List.replicate a.toNat a0).length,some ((List.replicate a.toNat a0).map row)⟩):=by
 intro g w tmps H o;have D:(inf.bytes:Int)*b<=281474976710656:=by
  have h1:inf.bytes*b.toNat<=100000*1000000000:=Nat.mul_le_mul C (by omega)
  grind
 have f:=run_make (P:=P) w t e inf z ht hi v n kc a b h.1 h.2.1 D (by omega);rw[dE]at f;have B:=iE (g:=g) (w:=w) (st:=st) M (.d _ _ (nC _ _ z));have E:(row a0).length=sz:=by rw[←B.1,A]
 have F:(w.alloc (.cells (madeCells z.cells (b.toNat*sz)) e)).ownsRow base e sz (.slice (some ⟨w.heap.size,0,none⟩) a.toNat b.toNat) a.toNat ((madeCells z.cells (b.toNat*sz)).toList.take (a.toNat*sz)):=by
  have k:a.toNat*sz<=b.toNat*sz:=zbn _ (by omega);refine⟨by rw[zaw,zbx,size_madeCells];omega,.inr ⟨w.heap.size,b.toNat,_,rfl,H.base,heap_alloc_new w _,by omega,by simp only[maxLen];omega,size_madeCells _ _,rfl⟩⟩
 have S:bY g.lim w sz a.toNat ((List.replicate a.toNat a0).map row) ((madeCells z.cells (b.toNat*sz)).toList.take (a.toNat*sz)):=by
  refine⟨by simp,λr f=>by
   simp_all,λi c u p q=>?_⟩
  have Q:∀r∈(List.replicate a.toNat a0).map row,r.length=sz:=λr f=>by
   simp_all
  have G:=eK Q;have s:i<a.toNat*sz:=by have:=(zad.1 p).1;rw[G]at this;simp_all
  have I:0<sz:=by
   grind
  have T:i % sz<sz:=zdq _ I;have hdiv:i / sz<a.toNat:=zdg (by rw[zda];exact s);have J:i=i / sz*sz+i % sz:=by rw[zda];exact(zeg i sz).symm
  have K:=ig (i:=i / sz) (j:=i % sz) (row:=row a0) (c:=(row a0)[i % sz]'(by omega)) Q (by grind) (zaf (by omega));rw[←J,p]at K;have l:(row a0)[i % sz]?=some c:=by grind
  have m:z.cells[i % sz]?=some u:=by
   rw[zah,zab s]at q;have k:a.toNat*sz<=b.toNat*sz:=zbn _ (by omega);have U:i % sz<z.cells.size:=by omega
   have h3:(madeCells z.cells (b.toNat*sz)).toList[i]?=some (z.cells[i % z.cells.size]!):=by simp[madeCells,show i<b.toNat*sz by omega]
   rw[h3]at q
   grind
  exact B.2 _ c u l m
 have L:(List.replicate a.toNat a0).length=a.toNat:=by simp
 rw[L];obtain⟨g',q1,q2,V,N,O⟩:=H.tn ⟨e,sz,a.toNat,some ((List.replicate a.toNat a0).map row)⟩ F (.inr ⟨rfl,(Below.refl _ w).alloc (zag _) _⟩) (λrows W=>by simp_all);refine⟨.slice (some ⟨w.heap.size,0,none⟩) a.toNat b.toNat,g',_,?_,?_,N,O⟩
 .simp[execOp,(aq o hx).aO,(aq o hy).aO,f]
 .refine .vc _ _ _ (by simp[St.tok]) ⟨_,_,_,rfl⟩ λx' rows R X=>?_
  have:x'=⟨e,sz,a.toNat,some ((List.replicate a.toNat a0).map row)⟩:=by simpa[St.tok,eq_comm] using R
  simp_all
end sl
end rules
section rules
variable {P:uG}{f:Ctx}{N:Nat}{S:Start}{Q:EV->St->Prop}{k:List Item}{todo:List Item}{base:Nat}{env:Env}{st:St}{ops rest:List Oper}
 {d:Option Tmp} {ty:uE} {pos:String} {after:uD Edge} {gd:Option (Nat×Bool)} {t t2 e:uE} {x y z:uH}
section sl
variable {α:Type}{sz:Nat}{row:α->List D}{l:List α}{ev:EV}{inf:TypeInfo}{tk n:Nat}
def KS{l':LQ α}{zv v u:uB}{d:TypeDesc}{g:eI}{w:uC}{H:LQ uB}(ht:P.underlying t=some (.slice e))(z:P.underlying t2=some d)(E:d=.string∨∃f,d=.slice f)
  (hi:P.info? e=some inf) (B:inf.zero=some zv) (C:inf.size=sz) (D:zv.cells.size=sz) (F:inf.bytes<=100000) (hinv:Inv g base w st) (hv:v=g.tk tk) (i:st.ag[tk]?=some ⟨e,sz,n,some (l.map row)⟩)
  (hn:l.length+l'.length<=1000000000) (k:Ao P g.lim w sz u (l'.map row) H) :
  ∃v' g' w',(Builtin.append_ #[t,t2] ty #[v,u]).run P w=.ok v' w'/\aY g' w' (st.aQ tk ⟨e,sz,(l++l').length,some ((l++l').map row)⟩) (.vc tk (l++l').length) v' /\
   Inv g' base w' (st.aQ tk ⟨e,sz,(l++l').length,some ((l++l').map row)⟩)/\Step base g w st g' w' (st.aQ tk ⟨e,sz,(l++l').length,some ((l++l').map row)⟩):=by
 obtain⟨G,xs,p,O,Q⟩:=Gv hinv i hv;have V:n=l.length:=by have:=Q.len;simp_all
 have m:(l'.map row).length=l'.length:=by simp
 obtain⟨v',w',I,o,W,q⟩:=jA (P:=P) (ty:=ty) w ht z E hi B C D p k.src (by simp only[maxLen];rw[m];omega) (by rw[m,V];exact Dr hn F) hinv.base;rw[m]at o W;have J:(l++l').length=n+l'.length:=by rw[zar,V]
 rw[J];rw[G]at q W;have R:bY g.lim w sz (n+l'.length) ((l++l').map row) (xs++H):=by
  refine⟨by simp[V],λr s=>?_,λj c u a b=>?_⟩
  .rw[zcd]at s;rcases zbi.1 s with h|h
   .exact Q.row r h
   .exact k.rows r h
  .rw[zcd,zdj]at a;have K:=eK Q.row;have S:=p.1;rw[Q.len]at K;by_cases L:j<xs.length
   .rw[zaj L]at b;rw[zaj (by omega)]at a;exact Q.rep j c u a b
   .rw[zan (by omega)]at b;rw[zan (by omega)]at a;have f:((l.map row).flatten).length=xs.length:=by omega
    rw[f]at a;exact k.rep _ u c b a
 obtain⟨g',q1,q2,M,N⟩:=hinv.xn (x':=⟨e,sz,n+l'.length,some ((l++l').map row)⟩) i o q (λx=>by cases x) (λrows _ aT _=>⟨rfl,Nat.le_add_right _ _,λe=>W (by simp_all)⟩) (λrows x=>by simp_all);refine⟨v',g',w',I,?_,M,N⟩;have hlen:tk<st.ag.length:=(zad.1 i).1;obtain⟨⟨A,c,hv⟩,_⟩:=fY o;refine .vc _ _ _ (by simpa[St.aQ] using hlen) ⟨A,_,c,hv⟩ λy rows hy T=>?_
 have:y=⟨e,sz,n+l'.length,some ((l++l').map row)⟩:=by
  have:(⟨e,sz,n+l'.length,some ((l++l').map row)⟩:ju)=y:=by simpa[St.aQ,zbg,hlen] using hy
  simp_all
 simp_all
def EL{l':LQ α}{zv v u:uB}{f:TypeDesc}{g:eI}{w:uC}{a:LQ uB}(ht:P.underlying t=some (.slice e))(k:P.underlying t2=some f)(E:f=.string∨∃z,f=.slice z)
  (hi:P.info? e=some inf) (m:inf.zero=some zv) (o:inf.size=sz) (s:zv.cells.size=sz) (p:inf.bytes<=100000) (hinv:Inv g base w st) (hv:aY g w st (.vc tk n) v) (d:st.ag[tk]?=some ⟨e,sz,n,some (l.map row)⟩)
  (hn:l.length+l'.length<=1000000000) (b:Ao P g.lim w sz u (l'.map row) a) :
  ∃v' g' w',(Builtin.append_ #[t,t2] ty #[v,u]).run P w=.ok v' w'/\aY g' w' (st.aQ tk ⟨e,sz,(l++l').length,some ((l++l').map row)⟩) (.vc tk (l++l').length) v' /\
   Inv g' base w' (st.aQ tk ⟨e,sz,(l++l').length,some ((l++l').map row)⟩)/\Step base g w st g' w' (st.aQ tk ⟨e,sz,(l++l').length,some ((l++l').map row)⟩):=by
 rcases qu hinv d hv with F|⟨B,T,A,q⟩
 .exact KS ht k E hi m o s p hinv F d hn b
 .subst B;have hl:l=[]:=by simp_all
  subst hl;have H:tk<st.ag.length:=(zad.1 d).1;have hm:(l'.map row).length=l'.length:=by simp
  obtain⟨q1,q2⟩:=vL (P:=P) (ty:=ty) ht k E hi m o b.src (by omega) (by rw[hm];exact Dr (by omega) p) A;by_cases h0:l'.length=0
  .have K:l'=[]:=zax h0;subst K;have C:st.aQ tk ⟨e,sz,([]++[]:LQ α).length,some (([]++[]:LQ α).map row)⟩=st:=by
    have h3:st.ag[tk]=⟨e,sz,0,some (([]:LQ α).map row)⟩:=(zad.1 d).2;unfold St.aQ;show(⟨st.aB,st.ag.set tk ⟨e,sz,0,some (([]:LQ α).map row)⟩⟩:St)=st;rw[←h3,zfx]
   rw[C];exact⟨v,g,w,by rw[q];grind,WV H d ⟨A,q⟩,hinv,.refl _ _ _ _⟩
  .obtain⟨v',w',D,i,_,G⟩:=jA (P:=P) (ty:=ty) w ht k E hi m o s (World.ownsRow_nil w base e sz) b.src (by simp only[maxLen];rw[hm];omega) (by rw[hm];exact Dr (by omega) p) hinv.base;rw[hm]at i;have I:v'.ownBlock=some w.heap.size/\Below w.heap.size w w':=by
    rcases G with⟨h1,_⟩|h
    .exfalso;rcases i.2 with⟨_,h2⟩|⟨U,cap,J,h2,_⟩
     .omega
     .rw[h2]at h1;cases h1
    .exact h
   have L:([]++l':LQ α).length=0+l'.length:=by simp
   rw[L];have V:bY g.lim w sz (0+l'.length) (([]++l':LQ α).map row) ([]++a):=by
    refine⟨by simp,λr W=>b.rows r (by simp_all),λj c u X Y=>?_⟩;exact b.rep j u c (by simp_all) (by simp_all)
   obtain⟨g',M,N,O,Q⟩:=hinv.xn (x':=⟨e,sz,0+l'.length,some (([]++l':LQ α).map row)⟩) d i (.inr I) (λx=>by cases x) (λrows _ aT _=>⟨rfl,zdo _,λe=>absurd e (by grind)⟩) (λrows x=>by simp_all);refine⟨v',g',w',by rw[q,q2 (by rw[hm];exact h0)];exact D,?_,O,Q⟩;obtain⟨⟨R,c,S⟩,_⟩:=fY i;refine .vc _ _ _ (by simpa[St.aQ] using H) ⟨R,_,c,S⟩ λy rows hy Z=>?_
   have:y=⟨e,sz,0+l'.length,some (([]++l':LQ α).map row)⟩:=by
    have:(⟨e,sz,0+l'.length,some (([]++l':LQ α).map row)⟩:ju)=y:=by simpa[St.aQ,zbg,H] using hy
    simp_all
   simp_all
def KT{l':LQ α}{zv:uB}{a:TypeDesc}(ht:P.underlying t=some (.slice e))(A:P.underlying t2=some a)(E:a=.string∨∃c,a=.slice c)
  (hi:P.info? e=some inf) (f:inf.zero=some zv) (i:inf.size=sz) (k:zv.cells.size=sz) (j:inf.bytes<=100000) (hx:bp env x=some (.vc tk n)) (m:st.ag[tk]?=some ⟨e,sz,n,some (l.map row)⟩)
  (hn:l.length+l'.length<=1000000000)
  (G:∀(g:eI) (w:uC) (tmps:uD uB),Inv g base w st->cT g w st env tmps->∃h,Ao P g.lim w sz (Act.eval ⟨tmps,[]⟩ y) (l'.map row) h) :
  uL P base env st ⟨d,.call ⟨.builtin .append,#[x,y],#[t,t2]⟩,ty,pos,after,gd⟩ (.vc tk (l++l').length) (st.aQ tk ⟨e,sz,(l++l').length,some ((l++l').map row)⟩):=by
 intro g w tmps H b;obtain⟨h,r⟩:=G g w tmps H b;obtain⟨v',g',w',o,h1,h2,h3⟩:=EL (ty:=ty) ht A E hi f i k j H (aq b hx) m hn r;exact⟨v',g',w',by simp[execOp,resolve,invoke,builtin,o],h1,h2,h3⟩
def oa{l':LQ α}{zv:uB}{w:EV}(ht:P.underlying t=some (.slice e))(hi:P.info? e=some inf)(h:inf.zero=some zv)(H:inf.size=sz)(k:zv.cells.size=sz)(a:inf.bytes<=100000)
  (hx:bp env x=some (.vc tk n)) (b:st.ag[tk]?=some ⟨e,sz,n,some (l.map row)⟩) (hy:bp env y=some w) (hs:nE w=some (sz,l'.map row)) (hn:l.length+l'.length<=1000000000) :
  uL P base env st ⟨d,.call ⟨.builtin .append,#[x,y],#[t,t]⟩,ty,pos,after,gd⟩ (.vc tk (l++l').length) (st.aQ tk ⟨e,sz,(l++l').length,some ((l++l').map row)⟩) :=
 KT ht ht (.inr ⟨e,rfl⟩) hi h H k a hx b hn λg w tmps _ c=>rP (i7 hs (aq c hy))
def R9{l':LQ α}{w:EV}{e':Nat}(ht:P.underlying t=some (.slice e))(hi:P.info? e=some inf)(D:inf.size=sz)(hx:bp env x=some (.vc tk n))(i:st.ag[tk]?=some ⟨e',sz,n,some (l.map row)⟩)
  (hy:bp env y=some w) (hs:nE w=some (sz,l'.map row)) :
  uL P base env st ⟨d,.call ⟨.builtin .copy,#[x,y],#[t,t2]⟩,ty,pos,after,gd⟩ (.d (cI ((min l'.length l.length:Nat):Int))) (st.aQ tk ⟨e',sz,n,some ((l'.take (min l'.length l.length)++l.drop (min l'.length l.length)).map row)⟩):=by
 intro g w0 tmps h E;rcases qu h i (aq E hx)with F|⟨Z,r0,A1,G⟩
 rotate_left
 .subst Z;have hl:l=[]:=by simp_all
  subst hl;obtain⟨A,c,vs,H,k,I,J,cP,U,N⟩:=Jv (i7 hs (aq E hy));rw[zcb]at H;have K:st.aQ tk ⟨e',sz,0,some ((l'.take (min l'.length ([]:LQ α).length)++([]:LQ α).drop (min l'.length ([]:LQ α).length)).map row)⟩=st:=by
   have o:tk<st.ag.length:=(zad.1 i).1;have h3:st.ag[tk]=⟨e',sz,0,some (([]:LQ α).map row)⟩:=(zad.1 i).2;have e1:(l'.take (min l'.length ([]:LQ α).length)++([]:LQ α).drop (min l'.length ([]:LQ α).length))=[]:=by simp
   rw[e1];unfold St.aQ;rw[←h3,zfx]
  rw[K];have z:Builtin.lenOf (Act.eval ⟨tmps,[]⟩ y)=pure l'.length:=by rw[H];rfl
  have hf:(Builtin.firstCells sz 0 (Act.eval ⟨tmps,[]⟩ y)).run P w0=.ok #[] w0:=by rw[H];cases A<;>simp[Builtin.firstCells,loadCells,loadCellsFrom]
  refine⟨.int .i64 (min l'.length ([]:LQ α).length:Nat),g,w0,?_,.d _ _ (.ex _),h,.refl _ _ _ _⟩;have e2:Nat.min l'.length 0=0:=Nat.min_zero _;cases A1<;>simp[execOp,resolve,invoke,builtin,Builtin.copy_,run_underlying ht,G,z,sizeOf,typeInfo,hi,D,e2,hf,goInt,storeCells]
 obtain⟨F,xs,p,za,Q⟩:=Gv h i F;have V7:n=l.length:=by have:=Q.len;simp_all
 obtain⟨A,c,vs,H,k,I,J,cP,U,N⟩:=Jv (i7 hs (aq E hy));rw[zcb]at H k I J;generalize hm:min l'.length l.length=m;have L:m<=l'.length:=by omega
 have hmr:m<=l.length:=by omega
 have hms:m*sz<=n*sz:=zbn _ (by omega);have O:m*sz<=l'.length*sz:=zbn _ L;have uP:=p.1
 -- the cells that are copied
 have R:(Builtin.firstCells sz m (Act.eval ⟨tmps,[]⟩ y)).run P w0=.ok (vs.take (m*sz)).toArray w0:=by
  rw[H];cases A with
  | none =>
   have h0:vs=[]:=zax (by rw[k,(J rfl).1];simp);subst h0;simp[Builtin.firstCells]
  | some ad =>
   rcases I with h0|⟨b,off,pa⟩
   .have h1:m=0:=by omega
    subst h1;simp[Builtin.firstCells,loadCells,loadCellsFrom]
   .cases pa;refine run_firstCells_some w0 sz m _ _ c _ (by grind) λj v hv=>?_
    rw[Addr.add_lit];rw[zah]at hv;simp_all
 have UB:∀v∈vs.take (m*sz),v.oneCell'=true:=λv hv=>by
  have M1:=zco hv;obtain⟨j,q⟩:=zcr.1 M1;have tU:=(zad.1 q).1;have Ak:=eK U;rw[zcb]at Ak;exact(N j v _ q (zaf (by omega))).2
 have S:(vs.take (m*sz)).length=m*sz:=by grind
 have hrl:∀a∈l',(row a).length=sz:=λa ha=>U _ (zck.2 ⟨a,ha,rfl⟩)
 have T:∀a∈l,(row a).length=sz:=λa ha=>Q.row _ (zck.2 ⟨a,ha,rfl⟩)
 have iN:bY g.lim w0 sz n ((l'.take m++l.drop m).map row) (xs.take 0++vs.take (m*sz)++xs.drop (0+(vs.take (m*sz)).length)):=by
  refine⟨by grind,λr V=>?_,λj cc u B C=>?_⟩
  .grind
  .rw[zcd,zdj]at B;have s:((l'.take m).map row).flatten.length=m*sz:=by
    rw[eK (sz:=sz) (λr V=>by grind)];simp_all
   have t1:((l'.take m).map row).flatten=((l'.map row).flatten).take (m*sz):=by
    have:l'.map row=(l'.take m).map row++(l'.drop m).map row:=by rw[←zcd,zcz]
    rw[this,zdj,←s,zgf]
   have M:((l.take m).map row).flatten.length=m*sz:=by
    rw[eK (sz:=sz) (λr V=>by grind)];simp_all
   have t2:((l.drop m).map row).flatten=((l.map row).flatten).drop (m*sz):=by
    have:l.map row=(l.take m).map row++(l.drop m).map row:=by rw[←zcd,zcz]
    rw[this,zdj,←M,zfm]
   simp only[List.take_zero,zcs,zbh,S]at C;by_cases q:j<m*sz
   .rw[zaj (by omega),t1,zah,zab q]at B;rw[zaj (by omega),zah,zab q]at C
    grind
   .rw[zan (by omega),s,t2,zbd]at B;rw[zan (by omega),S,zbd]at C;exact Q.rep _ cc u B C
 obtain⟨⟨W,c2,f⟩,wN⟩:=fY p;have z:Builtin.lenOf (Act.eval ⟨tmps,[]⟩ y)=pure l'.length:=by rw[H];rfl
 have X:Nat.min l'.length n=m:=by rw[V7];exact hm
 by_cases Jw:W=none
 .subst Jw;have Wv:m=0:=by
   grind
  have zb:(l'.take m++l.drop m)=l:=by rw[Wv];simp
  rw[zb];have K:st.aQ tk ⟨e',sz,n,some (l.map row)⟩=st:=by
   have o:tk<st.ag.length:=(zad.1 i).1;have h3:st.ag[tk]=⟨e',sz,n,some (l.map row)⟩:=(zad.1 i).2;unfold St.aQ;rw[←h3,zfx]
  rw[K];refine⟨.int .i64 m,g,w0,?_,.d _ _ (.ex _),h,.refl _ _ _ _⟩;simp[execOp,resolve,invoke,builtin,Builtin.copy_,run_underlying ht,f,z,sizeOf,typeInfo,hi,D,X,R,goInt]
 .obtain⟨b,hb⟩:∃b,W=some ⟨b,0,none⟩:=by
   rcases p.2 with⟨h1,_⟩|⟨gb,cap,cur,h1,_⟩
   .rw[f]at h1;simp_all
   grind
  subst hb;rw[f]at p;obtain⟨w',k1,k2,k3,k4⟩:=JB (P:=P) p 0 (vs.take (m*sz)) (by omega) UB;rw[f]at F;obtain⟨g',q1,q2,q3,q4⟩:=h.xn (x':=⟨e',sz,n,some ((l'.take m++l.drop m).map row)⟩) (v':=g.tk tk) (w':=w') i (by rw[←F];exact k2) (.inl ⟨rfl,k4,by rw[←F];exact k3⟩) (λY=>by cases Y) (λrows _ aT _=>⟨rfl,zag _,λ_=>rfl⟩) (λrows Y=>by simp_all)
  refine⟨.int .i64 m,g',w',?_,.d _ _ (.ex _),q3,q4⟩;simp[execOp,resolve,invoke,builtin,Builtin.copy_,run_underlying ht,f,z,sizeOf,typeInfo,hi,D,X,R,goInt,k1]
def uT(row:α->LQ D)(ht:P.underlying t=some (.slice e))(hi:P.info? e=some inf)(dE:inf.size=sz):
  uL P base env st ⟨d,.buildSlice t 0 #[],ty,pos,after,gd⟩ (.vc st.ag.length ([]:LQ α).length) (st.tok ⟨e,sz,([]:LQ α).length,some (([]:LQ α).map row)⟩):=by
 intro g w tmps h a;obtain⟨g',h1,_,_,h2,h3⟩:=h.tn ⟨e,sz,0,some []⟩ (v:=.slice (some ⟨w.heap.size,0,none⟩) 0 0) (xs:=[]) ⟨by simp,.inr ⟨w.heap.size,0,#[],rfl,h.base,heap_alloc_new w _,zag _,by omega,by simp,by simp⟩⟩
  (.inr ⟨rfl,(Below.refl _ w).alloc (zag _) _⟩) (λrows H=>by cases H;exact⟨rfl,by simp,by simp⟩)
 refine⟨.slice (some ⟨w.heap.size,0,none⟩) 0 0,g',_,?_,.vc _ _ _ (by simp[St.tok]) ⟨_,_,_,rfl⟩ λy rows hy b=>?_,h2,h3⟩
 .simp[execOp,Instr.buildSlice,run_underlying ht,cM hi,newRow,Instr.fill];rw[show Array.map (λ_=>(default:uB)) (Array.range 0)=#[]from by simp_all]
 simp_all
end sl
end rules
section rules
variable {P:uG}{f:Ctx}{N:Nat}{S:Start}{Q:EV->St->Prop}{k:List Item}{todo:List Item}{base:Nat}{env:Env}{st:St}{ops rest:List Oper}
 {d:Option Tmp} {ty:uE} {pos:String} {after:uD Edge} {gd:Option (Nat×Bool)} {t t2 e:uE} {x y z u:uH}
def WW{lim w sz rows A c h m}(d:cq lim w (.sl sz rows) (.slice A rows.length c))(f:h<=rows.length)(a:h<=m)(l:m<=c):
  cq lim w (.sl sz (rows.take h)) (.slice A (rows.take h).length m):=by
 have H:(rows.take h).length=h:=by grind
 rw[H];cases d with
 | nil =>
  have h1:h=0:=by omega
  have h2:m=0:=by omega
  subst h1;subst h2;exact .nil sz _
 | sl _ _ b off cap r g hx n =>
  have e:h=(rows.take h).length:=H.symm;rw[show(Value.slice (some ⟨b,off,none⟩) h m)=.slice (some ⟨b,off,none⟩) (rows.take h).length m from by rw[H]];refine .sl sz _ b off m (by rw[H];exact a) (λrow a=>g row (zco a)) (λk hk=>hx k (zaz hk (zbn _ (by rw[H];exact f)))) λi j row o v hi p q=>?_;rw[zah]at hi
  grind
def WX{lim w sz rows A c}(h:cq lim w (.sl sz rows) (.slice A rows.length c)):rows.length<=c:=by
 generalize hv:Value.slice A rows.length c=v at h;cases h with
 | nil=>simp_all
 | sl _ _ _ _ _ H=>simp_all
section sl
variable {α:Type}{sz:Nat}{row:α->List D}{l:List α}{ev:EV}{inf:TypeInfo}
def Sa{k f b c}(ht:P.underlying t=some (.slice e))(hi:P.info? e=some inf)(dE:inf.size=sz)(hx:bp env x=some ev)(hs:nE ev=some (sz,l.map row))(n:bp env z=some (.d (.ex (.int k b))))(hu:bp env u=some (.d (.ex (.int f c))))
  (h:0<=b/\b<=c/\c<=l.length):aG P env st ⟨d,.slice t x none (some z) (some u),ty,pos,after,gd⟩ (.d (au sz row (l.take b.toNat))):=λg base w tmps i a=>by
 have H:=i7 hs (aq a hx);obtain⟨A,j,hv⟩:=yF H;rw[hv]at H;have F:(l.map row).length<=j:=WX H;rw[zcb]at F;have U:=WW (h:=b.toNat) (m:=c.toNat) H (by grind) (by omega) (by omega);have K:((l.map row).take b.toNat).length=b.toNat:=by grind
 have Q:=PM U (l:=0) (h:=b.toNat) (by omega) (by rw[K];omega) (by rw[K];omega);have o:(((l.map row).take b.toNat).take b.toNat).drop 0=(l.take b.toNat).map row:=by simp[zey]
 rw[o]at Q;refine⟨_,.d _ _ Q,λw' _=>?_⟩;have p:=run_slice_hm (P:=P) w' t A (l.map row).length j (by rw[iR ht];exact ht) k f b c h.1 h.2.1 (by omega);simp only[execOp,hv,Sem.run_bind,run_sliceAt_slice w' t _ _ _ _ (by rw[iR ht];exact ht),Option.map_none,Option.map_some,(aq a n).aO,(aq a hu).aO,p,Result.andThen_ok,Sem.run_pure];simp[iR ht,cM hi,dE]
def Nh{k i j a b c}(ht:P.underlying t=some (.slice e))(hi:P.info? e=some inf)(dE:inf.size=sz)(hx:bp env x=some ev)(hs:nE ev=some (sz,l.map row))(hy:bp env y=some (.d (.ex (.int k a))))(p:bp env z=some (.d (.ex (.int i b))))(hu:bp env u=some (.d (.ex (.int j c))))
  (h:0<=a/\a<=b/\b<=c/\c<=l.length):aG P env st ⟨d,.slice t x (some y) (some z) (some u),ty,pos,after,gd⟩ (.d (au sz row ((l.take b.toNat).drop a.toNat))):=λg base w tmps n H=>by
 have f:=i7 hs (aq H hx);obtain⟨A,o,hv⟩:=yF f;rw[hv]at f;have F:(l.map row).length<=o:=WX f;rw[zcb]at F;have U:=WW (h:=b.toNat) (m:=c.toNat) f (by grind) (by omega) (by omega);have K:((l.map row).take b.toNat).length=b.toNat:=by grind
 have Q:=PM U (l:=a.toNat) (h:=b.toNat) (by omega) (by rw[K];omega) (by rw[K];omega);have q:(((l.map row).take b.toNat).take b.toNat).drop a.toNat=((l.take b.toNat).drop a.toNat).map row:=by simp[zey]
 rw[q]at Q;refine⟨_,.d _ _ Q,λw' _=>?_⟩;have r:=run_slice_lhm (P:=P) w' t A (l.map row).length o (by rw[iR ht];exact ht) k i j a b c h.1 h.2.1 h.2.2.1 (by omega);simp only[execOp,hv,Sem.run_bind,run_sliceAt_slice w' t _ _ _ _ (by rw[iR ht];exact ht),Option.map_none,Option.map_some,(aq H hy).aO,(aq H p).aO,(aq H hu).aO,r,Result.andThen_ok,Sem.run_pure];simp[iR ht,cM hi,dE]
end sl
end rules
section norm
variable {P:uG}{f:Ctx}{N:Nat}{S:Start}{Q:EV->St->Prop}{k:List Item}{todo:List Item}{env:Env}{st:St}{ops rest:List Oper}
def aE.tw{α:Type}{l:LQ α}{row}{i tk e sz n:Nat}(hl:lookup i env=some (.vc tk n))(d:st.ag[tk]?=some ⟨e,sz,n,some (l.map row)⟩)
  (h:aE P f N S Q todo ((i,.dA sz (l.map row) tk)::env) (st.aQ tk ⟨e,sz,l.length,none⟩)):aE P f N S Q todo env st :=
 .lenV d λhn=>.freeze hl d (by rw[hn];exact h)
def bO.tw{α:Type}{l:LQ α}{row}{i tk e sz n:Nat}(hl:lookup i env=some (.vc tk n))(d:st.ag[tk]?=some ⟨e,sz,n,some (l.map row)⟩)
  (h:bO P f N S Q ops rest k ((i,.dA sz (l.map row) tk)::env) (st.aQ tk ⟨e,sz,l.length,none⟩)):bO P f N S Q ops rest k env st :=
 λj H=>.tw hl d (h j H)
def aE.Sb{α:Type}{l:LQ α}{row}{tk e sz n:Nat}(E:Nat->Env)(T:Nat->St)(d:st.ag[tk]?=some ⟨e,sz,n,some (l.map row)⟩)(H:dG env (E n))(hT:st=T n)
  (h:aE P f N S Q todo (E l.length) (T l.length)):aE P f N S Q todo env st :=
 .lenV d λhn=>.sub H (by rw[hT,hn];exact h)
end norm
def eB.tupE{es xs}(h:sw es xs):eB (.dp es) (.dp xs):=by
 intro g w st v hv;obtain⟨h1,h2⟩:=h.get;cases hv with
 | dp _ vs hs a =>
  refine .dp _ vs (by rw[hs,h1]) λi d u b c=>?_
  obtain⟨e,f,H⟩:=h2 i d b;exact H _ _ _ _ (a i e u f c)
def ij{n m κ α ke val}{l:LQ (κ×α)}:gG n m (.map (iP ke val l))=true:=by
 unfold gG iP;rw[zbf];intro p h;obtain⟨q,_,rfl⟩:=zck.1 h;rfl
def Qe{ρ τ κ α ke val}{l:LQ (κ×α)}:jE.ren ρ τ (.map (iP ke val l))=.map (iP ke val l):=by
 simp[jE.ren,iP,EV.ren]
def Qf{ρ τ T}{α:Type}{l:LQ α}{c1:α->D}:jE.ren ρ τ (.row T (l.map λb=>EV.d (c1 b)))=.row T (l.map λb=>EV.d (c1 b)):=by
 have h:∀l:LQ α,EV.ren.KN ρ τ (l.map λb=>EV.d (c1 b))=l.map λb=>EV.d (c1 b):=by
  intro l
  induction l with
  | nil=>rfl
  | cons x l i=>rw[zbb,EV.ren.KN,i];rfl
 rw[jE.ren,h]
end Go.Abs
