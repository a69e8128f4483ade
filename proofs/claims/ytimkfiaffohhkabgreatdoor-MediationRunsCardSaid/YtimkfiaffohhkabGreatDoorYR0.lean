/- Own. -/
import Derived.WalkKit
import Derived.Below
import Derived.Lib.ItoaNum
import Derived.AtR
import Derived.Laws.RangeString
import Derived.Laws.RangeAny
import Derived.Laws.MakeOwn
set_option linter.unusedSimpArgs false
set_option linter.unusedVariables false
set_option linter.unusedSectionVars false
set_option maxRecDepth 100000
set_option maxHeartbeats 1000000
namespace Go
abbrev O:=List
abbrev J:=Option
abbrev uA:=UInt8
abbrev uB:=Value
abbrev uC:=World
abbrev uD:=Array
abbrev uE:=TypeId
abbrev uG:=Program
abbrev uH:=Operand
end Go
namespace Go
abbrev zaa:=@if_neg
abbrev zab:=@if_pos
abbrev zac:=@Option.bind_some
abbrev zad:=@List.length_cons
abbrev zae:=@List.getElem?_eq_some_iff
abbrev zaf:=@Nat.le_of_ble_eq_true
abbrev zag:=@List.getElem?_eq_getElem
abbrev zah:=@List.length_append
abbrev zai:=@List.mem_cons_of_mem
abbrev zaj:=@List.mem_cons_self
abbrev zak:=@decide_eq_true_eq
abbrev zal:=@List.length_singleton
abbrev zam:=@List.getElem?_take
abbrev zan:=@List.mem_cons
abbrev zao:=@List.map_cons
abbrev zap:=@List.getElem?_append_left
abbrev zaq:=@Nat.le_refl
abbrev zar:=@List.append_assoc
abbrev zas:=@List.length_nil
abbrev zat:=@Bool.and_eq_true
abbrev zau:=@Array.getD_eq_getD_getElem?
abbrev zav:=@List.pairwise_cons
abbrev zaw:=@Nat.eq_of_beq_eq_true
abbrev zax:=@List.getElem?_append_right
abbrev zay:=@Array.getElem?_eq_some_iff
abbrev zaz:=@Bool.false_eq_true
abbrev zba:=@List.eq_nil_of_length_eq_zero
abbrev zbb:=@List.length_take
abbrev zbc:=@List.mem_append
abbrev zbd:=@List.getElem?_drop
abbrev zbe:=@List.getElem?_map
abbrev zbf:=@List.all_eq_true
abbrev zbg:=@List.map_nil
abbrev zbh:=@List.length_drop
abbrev zbi:=@Array.getElem?_eq_getElem
abbrev zbj:=@List.mem_of_getElem?
abbrev zbk:=@List.filter_cons
abbrev zbl:=@Bool.eq_iff_iff
abbrev zbm:=@List.getElem?_set
abbrev zbn:=@congrArg
abbrev zbo:=@Nat.lt_of_lt_of_le
abbrev zbp:=@List.append_nil
abbrev zbq:=@List.getElem?_eq_none
abbrev zbr:=@List.singleton_append
abbrev zbs:=@decide_eq_true_iff
abbrev zbt:=@List.nil_append
abbrev zbu:=@Nat.zero_add
abbrev zbv:=@Bool.or_eq_true
abbrev zbw:=@if_false
abbrev zbx:=@List.size_toArray
abbrev zby:=@if_true
abbrev zbz:=@List.take_of_length_le
abbrev zca:=@List.mem_append_left
abbrev zcb:=@List.nodup_cons
abbrev zcc:=@List.mem_singleton
abbrev zcd:=@List.mem_map_of_mem
abbrev zce:=@List.map_append
abbrev zcf:=@List.getD_eq_getElem?_getD
abbrev zcg:=@Array.getElem?_setIfInBounds
abbrev zch:=@Array.getElem?_toList
abbrev zci:=@Bool.not_true
abbrev zcj:=@Option.getD_some
abbrev zck:=@List.ext_getElem?
abbrev zcl:=@Ne.symm
abbrev zcm:=@Bool.not_false
abbrev zcn:=@Option.map_eq_some_iff
abbrev zco:=@Nat.add_assoc
abbrev zcp:=@List.drop_eq_nil_of_le
abbrev zcq:=@List.mem_filter
abbrev zcr:=@Int.toNat_natCast
abbrev zcs:=@List.any_cons
abbrev zct:=@decide_eq_false_iff_not
abbrev zcu:=@Bool.true_and
abbrev zcv:=@of_decide_eq_true
abbrev zcw:=@Nat.mul_le_mul_right
abbrev zcx:=@List.filter_eq_nil_iff
abbrev zcy:=@List.mem_map
abbrev zcz:=@List.length_map
abbrev zda:=@decide_eq_false
abbrev zdb:=@Array.length_toList
abbrev zdc:=@List.length_pos_iff
abbrev zdd:=@List.mem_of_mem_drop
abbrev zde:=@List.filter_append
abbrev zdf:=@List.drop_of_length_le
abbrev zdg:=@Bool.false_and
abbrev zdh:=@Bool.or_false
abbrev zdi:=@List.toList_toArray
abbrev zdj:=@List.mem_iff_getElem?
abbrev zdk:=@Nat.add_mul
abbrev zdl:=@List.nodup_append
abbrev zdm:=@Bool.false_or
abbrev zdn:=@Nat.le_trans
abbrev zdo:=@Nat.add_comm
abbrev zdp:=@Nat.add_zero
abbrev zdq:=@Array.getElem?_append_left
abbrev zdr:=@Nat.mul_comm
abbrev zds:=@Array.getElem?_push_lt
abbrev zdt:=@decide_eq_true
abbrev zdu:=@Bool.not_eq_true'
abbrev zdv:=@List.filter_eq_self
abbrev zdw:=@List.mem_append_right
abbrev zdx:=@Nat.div_lt_of_lt_mul
abbrev zdy:=@List.mem_of_mem_take
abbrev zdz:=@Bool.false_ne_true
abbrev zea:=@Option.toList_some
abbrev zeb:=@getElem!_pos
abbrev zec:=@beq_iff_eq
abbrev zed:=@List.pairwise_append
abbrev zee:=@List.take_append_of_le_length
abbrev zef:=@List.filterMap_cons
abbrev zeg:=@List.append_of_mem
abbrev zeh:=@List.any_nil
abbrev zei:=@Option.toList_none
abbrev zej:=@List.takeWhile_cons_of_pos
abbrev zek:=@List.filter_congr
abbrev zel:=@List.any_eq_false
abbrev zem:=@List.flatMap_cons
abbrev zen:=@Nat.mod_lt
abbrev zeo:=@List.map_toArray
abbrev zep:=@List.not_mem_nil
abbrev zeq:=@List.flatten_append
abbrev zer:=@beq_eq_false_iff_ne
abbrev zes:=@List.filter_cons_of_neg
abbrev zet:=@List.all_cons
abbrev zeu:=@Bool.and_true
abbrev zev:=@Nat.eq_zero_or_pos
abbrev zew:=@Nat.div_add_mod
abbrev zex:=@List.dropWhile_sublist
abbrev zey:=@Int.le_refl
abbrev zez:=@List.flatten_cons
abbrev zfa:=@Nat.beq_refl
abbrev zfb:=@eq_comm
abbrev zfc:=@List.mem_zipIdx_iff_getElem?
abbrev zfd:=@Bool.true_or
abbrev zfe:=@List.take_append_drop
abbrev zff:=@List.perm_append_comm
abbrev zfg:=@List.drop_left
abbrev zfh:=@List.getElem_mem
abbrev zfi:=@List.any_eq_true
abbrev zfj:=@beq_self_eq_true
abbrev zfk:=@List.perm_middle
abbrev zfl:=@List.exists_mem_of_ne_nil
abbrev zfm:=@decide_false
abbrev zfn:=@List.take_left
abbrev zfo:=@Eq.symm
abbrev zfp:=@List.take_take
abbrev zfq:=@Nat.add_sub_cancel_left
abbrev zfr:=@Array.size_append
abbrev zfs:=@List.mapM_toArray
abbrev zft:=@bne_self_eq_false
abbrev zfu:=@List.Sublist.refl
abbrev zfv:=@Nat.zero_le
abbrev zfw:=@Nat.lt_succ_self
abbrev zfx:=@decide_eq_decide
abbrev zfy:=@Array.getElem?_modify
abbrev zfz:=@Nat.zero_mul
abbrev zga:=@Nat.le_of_eq
abbrev zgb:=@Nat.lt_or_ge
abbrev zgc:=@List.length_set
abbrev zgd:=@Bool.or_self
abbrev zge:=@Bool.or_eq_false_iff
abbrev zgf:=@List.length_take_le'
abbrev zgg:=@Array.toList_append
abbrev zgh:=@List.map_congr_left
abbrev zgi:=@List.Perm.refl
end Go
namespace Go.Abs
def GL:List (Nat×uD uB):=[(0,(Go.Lib.pow10Tab.map λz=>Value.int .u64 z).toArray)]
def GI:List Nat:=[]
end Go.Abs
namespace Go.Abs
open Go.RowKit
inductive D where
 | ex (v:uB)
 | agg (cs:List D)
 | dN (cs:List D)
 | sl (sz:Nat) (rows:List (List D))
 | ro (cs:List D)
 | e0 (sz:Nat)
 | any
inductive dY (lim:Nat->Nat) (w:uC):D->uB->Prop where
 | ex (v:uB):dY lim w (.ex v) v
 | agg (cs:List D) (vs:uD uB) (hs:vs.size=cs.length)
   (h1:∀ (i:Nat) (u:uB),vs[i]?=some u->u.oneCell'=true)
   (h:∀ (i:Nat) c (u:uB),cs[i]?=some c->vs[i]?=some u->dY lim w c u):dY lim w (.agg cs) (.agg vs)
 | dN (cs:List D) (vs:uD uB) (hs:vs.size=cs.length)
   (h:∀ (i:Nat) c (u:uB),cs[i]?=some c->vs[i]?=some u->dY lim w c u):dY lim w (.dN cs) (.tuple vs)
 | nil (sz:Nat) (A:Option Addr):dY lim w (.sl sz []) (.slice A 0 0)
 | sl (sz:Nat) (rows:List (List D)) (b off cap:Nat) (hc:rows.length<=cap) (hr:∀ row,row∈rows->row.length=sz)
   (hx:∀ k,k<rows.length*sz->off+k<lim b/\∃ u:uB,w.cell? ⟨b,off+k,none⟩=some u/\u.oneCell'=true)
   (h:∀ (i j:Nat) row c (u:uB),rows[i]?=some row->row[j]?=some c->w.cell? ⟨b,off+(i*sz+j),none⟩=some u->dY lim w c u) :
   dY lim w (.sl sz rows) (.slice (some ⟨b,off,none⟩) rows.length cap)
 | ro (cs:List D) (b off:Nat)
   (hx:∀ k,k<cs.length->off+k<lim b/\∃ u:uB,w.cell? ⟨b,off+k,none⟩=some u/\u.oneCell'=true)
   (h:∀ (j:Nat) c (u:uB),cs[j]?=some c->w.cell? ⟨b,off+j,none⟩=some u->dY lim w c u):dY lim w (.ro cs) (.pointer (some ⟨b,off,none⟩))
 | e0 (sz:Nat) (A:Option Addr) (h:A=none∨∃ b off,A=some ⟨b,off,none⟩):dY lim w (.e0 sz) (.slice A 0 0)
 | any (v:uB):dY lim w .any v
structure N5 (l:Nat->Nat) (w:uC) (l':Nat->Nat) (w':uC):Prop where
 size:w.heap.size<=w'.heap.size
 lim:∀ b:Nat,b<w.heap.size->l b<=l' b
 cell:∀ b off:Nat,b<w.heap.size->off<l b->w'.cell? ⟨b,off,none⟩=w.cell? ⟨b,off,none⟩
theorem N5.refl (lim:Nat->Nat) (w:uC):N5 lim w lim w:=⟨zaq _,λ_ _=>zaq _,λ_ _ _ _=>rfl⟩
theorem N5.trans {l1 l2 l3:Nat->Nat} {w1 w2 w3:uC} (h:N5 l1 w1 l2 w2) (k:N5 l2 w2 l3 w3):N5 l1 w1 l3 w3 :=
 ⟨zdn h.size k.size,λb hb=>zdn (h.lim b hb) (k.lim b (zbo hb h.size)),
  λb off hb ho=>(k.cell b off (zbo hb h.size) (zbo ho (h.lim b hb))).trans (h.cell b off hb ho)⟩
theorem BD {i j n sz:Nat} (hi:i<n) (hj:j<sz):i*sz+j<n*sz:=by
 have:(i+1)*sz<=n*sz:=zcw sz hi;rw[zdk] at this;omega
theorem dY.mono {lim dG:Nat->Nat} {w w':uC} (e:N5 lim w dG w') {x:D} {v:uB} (h:dY lim w x v):dY dG w' x v:=by
 induction h with
 | ex v=>exact .ex v
 | agg cs vs hs h1 _ ih=>exact .agg cs vs hs h1 ih
 | dN cs vs hs _ ih=>exact .dN cs vs hs ih
 | nil sz A=>exact .nil sz A
 | sl sz rows b off cap hc hr hx _ ih =>
  have fN:∀ k,k<rows.length*sz->w'.cell? ⟨b,off+k,none⟩=w.cell? ⟨b,off+k,none⟩:=by
   intro k hk;obtain ⟨hl,u,hu,_⟩:=hx k hk;exact e.cell b (off+k) (World.block_lt_of_cell? w _ hu) hl
  refine .sl sz rows b off cap hc hr ?_ ?_
  ·intro k hk;obtain ⟨hl,u,hu,h1⟩:=hx k hk;exact ⟨zbo hl (e.lim b (World.block_lt_of_cell? w _ hu)),u,(fN k hk).trans hu,h1⟩
  ·intro i j row c u hi hj hu;refine ih i j row c u hi hj ?_;rw[←fN (i*sz+j) ?_]
   ·exact hu
   ·have hl:=hr row (zbj hi);exact BD (zae.1 hi).1 (by rw[←hl];exact (zae.1 hj).1)
 | ro cs b off hx _ ih =>
  have fN:∀ k,k<cs.length->w'.cell? ⟨b,off+k,none⟩=w.cell? ⟨b,off+k,none⟩:=by
   intro k hk;obtain ⟨hl,u,hu,_⟩:=hx k hk;exact e.cell b (off+k) (World.block_lt_of_cell? w _ hu) hl
  refine .ro cs b off ?_ ?_
  ·intro k hk;obtain ⟨hl,u,hu,h1⟩:=hx k hk;exact ⟨zbo hl (e.lim b (World.block_lt_of_cell? w _ hu)),u,(fN k hk).trans hu,h1⟩
  ·intro j c u hj hu;refine ih j c u hj ?_;rw[←fN j (zae.1 hj).1];exact hu
 | e0 sz A h=>exact .e0 sz A h
 | any v=>exact .any v
inductive EV where
 | d (x:D)
 | ref (o off:Nat)
 | Lq (o off len cap:Nat)
 | cm (sz:Nat) (rows:List (List D)) (t:Nat)
 | mp (o:Nat)
 | u0 (f:FuncId) (Vj:List EV)
 | agg (cs:List EV)
 | dN (cs:List EV)
 | gd (b:Bool) (x:EV)
  | vc (t k:Nat)
  | vp (t k i off:Nat)
  | vw (t k lo n:Nat)
structure iR where
 e:uE
 sz:Nat
 n:Nat
 own:Option (List (List D))
inductive dU where
 | row (ty:uE) (cs:List EV)
 | map (es:List (uB×EV))
 | raw (x:Obj)
 | gone
structure St where
 aS:List dU
 av:List iR
structure b8 where
 lim:Nat->Nat
 ob:Nat->Nat
 tk:Nat->uB
def Emp (v:uB) (n:Nat):Prop:=n=0/\∃ A,v=.slice A 0 0
inductive bP (g:b8) (w:uC) (st:St):EV->uB->Prop where
 | d (x:D) (v:uB) (h:dY g.lim w x v):bP g w st (.d x) v
 | ref (o off:Nat) (h:o<st.aS.length):bP g w st (.ref o off) (.pointer (some ⟨g.ob o,off,none⟩))
 | Lq (o off len cap:Nat) (h:o<st.aS.length):bP g w st (.Lq o off len cap) (.slice (some ⟨g.ob o,off,none⟩) len cap)
 | cm (sz:Nat) (rows:List (List D)) (t:Nat) (v:uB) (e:uE) (n:Nat) (hd:dY g.lim w (.sl sz rows) v) (ht:st.av[t]?=some ⟨e,sz,n,none⟩)
   (hn:rows.length<=n) (hv:rows.length=n->v=g.tk t∨Emp v n):bP g w st (.cm sz rows t) v
 | mp (o:Nat) (h:o<st.aS.length):bP g w st (.mp o) (.map (some (g.ob o)))
 | u0 (f:FuncId) (cs:List EV) (vs:uD uB) (hs:vs.size=cs.length)
   (h:∀ (i:Nat) c (u:uB),cs[i]?=some c->vs[i]?=some u->bP g w st c u):bP g w st (.u0 f cs) (.func (.func f) #[] vs)
 | agg (cs:List EV) (vs:uD uB) (hs:vs.size=cs.length) (h1:∀ (i:Nat) (u:uB),vs[i]?=some u->u.oneCell'=true)
   (h:∀ (i:Nat) c (u:uB),cs[i]?=some c->vs[i]?=some u->bP g w st c u):bP g w st (.agg cs) (.agg vs)
 | dN (cs:List EV) (vs:uD uB) (hs:vs.size=cs.length)
   (h:∀ (i:Nat) c (u:uB),cs[i]?=some c->vs[i]?=some u->bP g w st c u):bP g w st (.dN cs) (.tuple vs)
 | gd (b:Bool) (x:EV) (v:uB) (h0:b=false->v=undef) (h:b=true->bP g w st x v):bP g w st (.gd b x) v
 | vc (t k:Nat) (v:uB) (ht:t<st.av.length) (hf:∃ A n c,v=.slice A n c) (h:∀ x rows,st.av[t]?=some x->x.own=some rows->k<=x.n/\(k=x.n->v=g.tk t∨Emp v x.n)):bP g w st (.vc t k) v
 | vp (t k i off:Nat) (v:uB) (ht:t<st.av.length) (hf:∃ b o,v=.pointer (some ⟨b,o,none⟩))
   (h:∀ x rows,st.av[t]?=some x->x.own=some rows->k<=x.n/\(k=x.n->∃ b n c,g.tk t=.slice (some ⟨b,0,none⟩) n c/\v=.pointer (some ⟨b,i*x.sz+off,none⟩))):bP g w st (.vp t k i off) v
 | vw (t k lo n:Nat) (v:uB) (ht:t<st.av.length) (hf:∃ A c,v=.slice A n c)
   (h:∀ x rows,st.av[t]?=some x->x.own=some rows->k<=x.n/\(k=x.n->n=0∨∃ b m c c',g.tk t=.slice (some ⟨b,0,none⟩) m c/\v=.slice (some ⟨b,lo*x.sz,none⟩) n c')):bP g w st (.vw t k lo n) v
structure wo (g:b8) (w:uC) (st:St) (g':b8) (w':uC) (st':St):Prop where
 df:N5 g.lim w g'.lim w'
 ob:∀ o,o<st.aS.length->g'.ob o=g.ob o
 aS:st.aS.length<=st'.aS.length
 av:∀ t e sz n,st.av[t]?=some ⟨e,sz,n,none⟩->∃ n',st'.av[t]?=some ⟨e,sz,n',none⟩/\n<=n'/\(n'=n->g'.tk t=g.tk t)
 Og:st.av.length<=st'.av.length
 own:∀ t x' bE,t<st.av.length->st'.av[t]?=some x'->x'.own=some bE->∃ x rows,st.av[t]?=some x/\x.own=some rows/\x.sz=x'.sz/\x.n<=x'.n/\(x.n=x'.n->g'.tk t=g.tk t)
theorem wT {g g':b8} {st st':St} (hs:∀ t x' bE,t<st.av.length->st'.av[t]?=some x'->x'.own=some bE->st.av[t]?=some x'/\g'.tk t=g.tk t) :
  ∀ t x' bE,t<st.av.length->st'.av[t]?=some x'->x'.own=some bE->∃ x rows,st.av[t]?=some x/\x.own=some rows/\x.sz=x'.sz/\x.n<=x'.n/\(x.n=x'.n->g'.tk t=g.tk t) :=
 λt x' bE cT hx ho=>⟨x',bE,(hs t x' bE cT hx ho).1,ho,rfl,zaq _,λ_=>(hs t x' bE cT hx ho).2⟩
theorem wo.refl (g:b8) (w:uC) (st:St):wo g w st g w st :=
 ⟨.refl _ _,λ_ _=>rfl,zaq _,λ_ _ _ n h=>⟨n,h,zaq _,λ_=>rfl⟩,zaq _,wT λ_ _ _ _ h _=>⟨h,rfl⟩⟩
theorem wo.trans {g1 g2 g3:b8} {w1 w2 w3:uC} {s1 s2 s3:St} (h:wo g1 w1 s1 g2 w2 s2) (k:wo g2 w2 s2 g3 w3 s3):wo g1 w1 s1 g3 w3 s3:=by
 refine ⟨h.df.trans k.df,λo ho=>(k.ob o (zbo ho h.aS)).trans (h.ob o ho),zdn h.aS k.aS,λt e sz n ht=>?_,zdn h.Og k.Og,λt x'' XS cT hx ho=>?_⟩
 rotate_left
 ·obtain ⟨x',bE,a1,a2,a3,a4,a5⟩:=k.own t x'' XS (zbo cT h.Og) hx ho;obtain ⟨x,rows,b1,b2,b3,b4,b5⟩:=h.own t x' bE cT a1 a2;exact ⟨x,rows,b1,b2,b3.trans a3,zdn b4 a4,λe=>(a5 (by omega)).trans (b5 (by omega))⟩
 obtain ⟨n',h1,h2,h3⟩:=h.av t e sz n ht;obtain ⟨n'',k1,k2,k3⟩:=k.av t e sz n' h1;refine ⟨n'',k1,zdn h2 k2,λhn=>?_⟩;have e1:n'=n:=by omega
 subst e1;exact (k3 hn).trans (h3 rfl)
theorem bP.mono {g g':b8} {w w':uC} {st st':St} (e:wo g w st g' w' st') {x:EV} {v:uB} (h:bP g w st x v):bP g' w' st' x v:=by
 induction h with
 | d x v h=>exact .d x v (h.mono e.df)
 | ref o off h=>rw[←e.ob o h];exact .ref o off (zbo h e.aS)
 | Lq o off len cap h=>rw[←e.ob o h];exact .Lq o off len cap (zbo h e.aS)
 | cm sz rows t v el n hd ht hn hv =>
  obtain ⟨n',h1,h2,h3⟩:=e.av t el sz n ht;refine .cm sz rows t v el n' (hd.mono e.df) h1 (zdn hn h2) (λhr=>?_);have e1:n'=n:=by omega
  subst e1;exact (hv hr).imp (·.trans (h3 rfl).symm) id
 | mp o h=>rw[←e.ob o h];exact .mp o (zbo h e.aS)
 | u0 f cs vs hs _ ih=>exact .u0 f cs vs hs ih
 | agg cs vs hs h1 _ ih=>exact .agg cs vs hs h1 ih
 | dN cs vs hs _ ih=>exact .dN cs vs hs ih
 | gd b x v h0 _ ih=>exact .gd b x v h0 ih
 | vc t k v ht hf h =>
  refine .vc t k v (zbo ht e.Og) hf λx' bE hx ho=>?_
  obtain ⟨x,rows,b1,b2,_,b4,b5⟩:=e.own t x' bE ht hx ho;obtain ⟨c1,c2⟩:=h x rows b1 b2;exact ⟨by omega,λhk=>by
   have e1:x.n=x'.n:=by omega
   have:=c2 (by omega);rw[e1] at this;exact this.imp (·.trans (b5 e1).symm) id⟩
 | vp t k i off v ht hf h =>
  refine .vp t k i off v (zbo ht e.Og) hf λx' bE hx ho=>?_
  obtain ⟨x,rows,b1,b2,b3,b4,b5⟩:=e.own t x' bE ht hx ho;obtain ⟨c1,c2⟩:=h x rows b1 b2;exact ⟨by omega,λhk=>by
   obtain ⟨b,n,c,d1,d2⟩:=c2 (by omega);exact ⟨b,n,c,(b5 (by omega)).trans d1,by rw[←b3];exact d2⟩⟩
 | vw t k lo n v ht hf h =>
  refine .vw t k lo n v (zbo ht e.Og) hf λx' bE hx ho=>?_
  obtain ⟨x,rows,b1,b2,b3,b4,b5⟩:=e.own t x' bE ht hx ho;obtain ⟨c1,c2⟩:=h x rows b1 b2;exact ⟨by omega,λhk=>by
   rcases c2 (by omega) with hz|⟨b,m,c,c',d1,d2⟩
   ·exact .inl hz
   ·exact .inr ⟨b,m,c,c',(b5 (by omega)).trans d1,by rw[←b3];exact d2⟩⟩
def St.live (st:St) (o:Nat):Prop:=∃ x,st.aS[o]?=some x/\x≠.gone
def zh (B:Nat) (w:uC):Prop:=(∀ x∈GL,x.1<B/\∃ ty fr,w.heap[x.1]?=some (.cells x.2 ty fr))/\∀ k∈GI,k<B/\∃ m,w.cell? ⟨k,0,none⟩=some (.int .i64 m)
theorem zh.below {B:Nat} {w w':uC} (h:zh B w) (hb:Below B w w'):zh B w':=⟨λx hx =>
 let ⟨h1,ty,fr,h2⟩:=h.1 x hx
 ⟨h1,ty,fr,(hb.block _ h1).trans h2⟩,λk hk =>
 let ⟨h1,m,h2⟩:=h.2 k hk
 ⟨h1,m,(hb.cell (p:=⟨k,0,none⟩) h1).trans h2⟩⟩
theorem zh.mono {B B':Nat} {w:uC} (h:zh B w) (hb:B<=B'):zh B' w:=⟨λx hx =>
 let ⟨h1,h2⟩:=h.1 x hx
 ⟨zbo h1 hb,h2⟩,λk hk =>
 let ⟨h1,h2⟩:=h.2 k hk
 ⟨zbo h1 hb,h2⟩⟩
structure dF (lim:Nat->Nat) (w:uC) (sz n:Nat) (rows:List (List D)) (xs:List uB):Prop where
 len:rows.length=n
 row:∀ r,r∈rows->r.length=sz
 rep:∀ (i:Nat) c (u:uB),rows.flatten[i]?=some c->xs[i]?=some u->dY lim w c u/\u.oneCell'=true
theorem dF.mono {lim dG:Nat->Nat} {w w':uC} {sz n:Nat} {rows:O (O D)} {xs:O uB} (h:dF lim w sz n rows xs) (e:N5 lim w dG w'):dF dG w' sz n rows xs :=
 ⟨h.len,h.row,λi c u a b=>⟨(h.rep i c u a b).1.mono e,(h.rep i c u a b).2⟩⟩
structure Inv (g:b8) (B:Nat) (w:uC) (st:St):Prop where
 base:B<=w.heap.size
 row:∀ o ty cs,st.aS[o]?=some (.row ty cs)->B<=g.ob o/\g.lim (g.ob o)=0 /\
  ∃ vs:uD uB,w.heap[g.ob o]?=some (.cells vs ty (0,0))/\vs.size=cs.length/\∀ (i:Nat) c (u:uB),cs[i]?=some c->vs[i]?=some u->bP g w st c u/\u.oneCell'=true
 map:∀ o es,st.aS[o]?=some (.map es)->B<=g.ob o /\
  ∃ (ms:uD MapEntry) (clock:Nat),w.heap[g.ob o]?=some (.map ms clock)/\ms.size=es.length /\
   (∀ (i:Nat) k x (m:MapEntry),es[i]?=some (k,x)->ms[i]?=some m->m.key=k/\bP g w st x m.val) /\
   (∀ (i:Nat) (m:MapEntry),ms[i]?=some m->m.born<clock) /\
   (∀ (i j:Nat) (m m':MapEntry),ms[i]?=some m->ms[j]?=some m'->m.born=m'.born->i=j)
 raw:∀ o x,st.aS[o]?=some (.raw x)->B<=g.ob o/\g.lim (g.ob o)=0/\w.heap[g.ob o]?=some x
 ne:∀ o o',o≠o'->st.live o->st.live o'->g.ob o≠g.ob o'
 tail:∀ t e sz n,st.av[t]?=some ⟨e,sz,n,none⟩->∃ xs,w.ownsRow B e sz (g.tk t) n xs/\∀ b,(g.tk t).ownBlock=some b->g.lim b=n*sz
 pJ:∀ t t' x x' b,t≠t'->st.av[t]?=some x->st.av[t']?=some x'->(g.tk t).ownBlock=some b->(g.tk t').ownBlock≠some b
 jD:∀ t x o,st.av[t]?=some x->st.live o->(g.tk t).ownBlock≠some (g.ob o)
 Fg:zh B w
 own:∀ t e sz n rows,st.av[t]?=some ⟨e,sz,n,some rows⟩->∃ xs,w.ownsRow B e sz (g.tk t) n xs/\(∀ b,(g.tk t).ownBlock=some b->g.lim b=0)/\dF g.lim w sz n rows xs
theorem Inv.Vk {g:b8} {B:Nat} {w:uC} {st:St} (h:Inv g B w st) {t:Nat} {x:iR} (hx:st.av[t]?=some x):∃ xs,w.ownsRow B x.e x.sz (g.tk t) x.n xs:=by
 obtain ⟨e,sz,n,own⟩:=x;cases own with
 | none=>obtain ⟨xs,h1,_⟩:=h.tail t e sz n hx;exact ⟨xs,h1⟩
 | some rows=>obtain ⟨xs,h1,_⟩:=h.own t e sz n rows hx;exact ⟨xs,h1⟩
theorem Inv.xH {g:b8} {B:Nat} {w:uC} {st:St} (h:Inv g B w st) {t:Nat} {x:iR} (hx:st.av[t]?=some x) {b:Nat} (hb:(g.tk t).ownBlock=some b):B<=b/\b<w.heap.size:=by
 obtain ⟨xs,h1⟩:=h.Vk hx;exact h1.lt b hb
theorem fZ {w w':uC} {B e sz n:Nat} {v:uB} {xs:O uB} (h:w.ownsRow B e sz v n xs) (hb:∀ b,v.ownBlock=some b->w'.heap[b]?=w.heap[b]?):w'.ownsRow B e sz v n xs:=by
 obtain ⟨k1,k2⟩:=h;refine ⟨k1,?_⟩;rcases k2 with k2|⟨gb,cap,cur,e1,e2,e3,e4⟩
 ·exact .inl k2
 ·exact .inr ⟨gb,cap,cur,e1,e2,by rw[hb gb (by rw[e1];rfl)];exact e3,e4⟩
def vU (g:b8) (st:St) (b:Nat):Prop:=(∃ o,st.live o/\g.ob o=b)∨(∃ t x,st.av[t]?=some x/\(g.tk t).ownBlock=some b)
abbrev Env:=List (Nat×EV)
def lookup (i:Nat):Env->Option EV
 | []=>none
 | (j,x)::e=>match Nat.beq i j with
  | true=>some x
  | false=>lookup i e
def eB (g:b8) (w:uC) (st:St) (env:Env) (tmps:uD uB):Prop :=
 ∀ i x,lookup i env=some x->∃ v:uB,tmps[i]?=some v/\bP g w st x v
theorem eB.mono {g g':b8} {w w':uC} {st st':St} {env:Env} {tmps:uD uB} (e:wo g w st g' w' st') (h:eB g w st env tmps):eB g' w' st' env tmps :=
 λi x hx=>let ⟨v,h1,h2⟩:=h i x hx;⟨v,h1,h2.mono e⟩
theorem eB.put {g:b8} {w:uC} {st:St} {env:Env} {tmps:uD uB} {d:Nat} {x:EV} {v:uB} (h:eB g w st env tmps) (hd:d<tmps.size) (hv:bP g w st x v) :
  eB g w st ((d,x)::env) (tmps.setIfInBounds d v):=by
 intro i y hy;unfold lookup at hy;by_cases hi:i=d
 ·subst hi;have:Nat.beq i i=true:=zfa i;rw[this] at hy;simp only[Option.some.injEq] at hy;subst hy;exact ⟨v,by simp [hd],hv⟩
 ·have:Nat.beq i d=false:=by
   cases hb:Nat.beq i d with
   | false=>rfl
   | true=>exact absurd (zaw hb) hi
  rw[this] at hy;obtain ⟨u,h1,h2⟩:=h i y hy;exact ⟨u,by simp [zcg,zcl hi,h1],h2⟩
structure Start where
 g:b8
 w:uC
 st:St
 base:Nat
structure s5 (S:Start) (g:b8) (w:uC) (st:St):Prop where
 dZ:wo S.g S.w S.st g w st
 below:Below S.base S.w w
 lim:∀ b,b<S.base->g.lim b=S.g.lim b
 frame:∀ b,b<S.w.heap.size->¬ vU S.g S.st b->w.heap[b]?=S.w.heap[b]?/\g.lim b=S.g.lim b
 fresh:∀ b,b<S.w.heap.size->vU g st b->vU S.g S.st b
def pD (S:Start) (Q:EV->St->Prop) (e:Ending) (w:uC):Prop :=
 ∃ v r st g,e=.returned v/\Q r st/\bP g w st r v/\Inv g S.base w st/\s5 S g w st
structure Ctx where
 fn:FuncId
 ds:List Deferred
 ro:Option Nat
@[reducible] def Ctx.of (f:FuncId):Ctx:=⟨f,[],none⟩
def bf (f:Ctx):Frame:={ (default:Frame) with fn:=f.fn,kind:=.normal,roundOf:=f.ro }
def Ctx.fin (P:uG) (f:Ctx) (fr:Frame) (w:uC) (e:Ending):Prop :=
 match f.ro with
 | none=>fr.fn=f.fn/\fr.leaving P w e
 | some _=>e=.returned (.bool true)/\∃ tmps,fr=(bf f).atR ⟨tmps,f.ds⟩ []
def e9 (P:uG) (f:Ctx) (R:Ending->uC->Prop) (todo:List Item) (tmps:uD uB) (w:uC):Prop :=
 ∀ cs,∃ e w' fr,R e w'/\Comes P (lone ((bf f).atR ⟨tmps,f.ds⟩ todo) cs w) (lone fr cs w') e/\f.fin P fr w' e
theorem e9.step {P:uG} {f:Ctx} {R:Ending->uC->Prop} {todo WY:O Item} {tmps WZ:uD uB} {w w':uC}
  (h:∀ cs,step P (lone ((bf f).atR ⟨tmps,f.ds⟩ todo) cs w)=.next (lone ((bf f).atR ⟨WZ,f.ds⟩ WY) cs w')) (k:e9 P f R WY WZ w'):e9 P f R todo tmps w:=by
 intro cs;obtain ⟨e,w2,fr,hR,hc,h1⟩:=k cs;exact ⟨e,w2,fr,hR,Comes.of_steps (.one (h cs)) hc,h1⟩
theorem e9.mono {P:uG} {f:Ctx} {R R':Ending->uC->Prop} {todo:O Item} {tmps:uD uB} {w:uC} (h:e9 P f R todo tmps w) (hr:∀ e w,R e w->R' e w):e9 P f R' todo tmps w :=
 λcs=>let ⟨e,w',fr,a,b,c⟩:=h cs;⟨e,w',fr,hr _ _ a,b,c⟩
theorem Cp {ro:J Nat} {ρ:uH->uB} {o:Oper} {P:uG} {w w':uC} {x:Next} (hr:(execOp ρ o).run P w=.ok x w') (hx:∀ d,x≠.defer d):Oper.semAt ro ρ o=execOp ρ o:=by
 refine Oper.semAt_eq ro ρ o λc hc=>?_
 have:∀ {x:Next} {w':uC},(execOp ρ o).run P w=.ok x w'->∃ d,x=.defer d:=by
  intro x w' h;simp only[execOp,hc,Sem.run_bind] at h;cases h2:(resolve ρ c o.type).run P w with
  | halt a b=>rw[h2] at h;cases h
  | ok d w2=>rw[h2] at h;simp at h;exact ⟨d,h.1.symm⟩
 obtain ⟨d,hd⟩:=this hr;exact hx d hd
section ops
variable {P:uG} {f:Ctx} {R:Ending->uC->Prop} {k:List Item} {tmps:uD uB} {w:uC} {ops:uD Oper} {i:Nat} {rest:List Nat} {o:Oper}
theorem put_eq (ds:O Deferred) (dst:J Tmp) (v:uB):Act.put ⟨tmps,ds⟩ dst v=⟨(Act.put ⟨tmps,[]⟩ dst v).tmps,ds⟩:=by cases dst <;> rfl
theorem Cq (ds:O Deferred) (tmps:uD uB):Act.eval ⟨tmps,ds⟩=Act.eval ⟨tmps,[]⟩:=by funext x;cases x <;> rfl
theorem e9.value {v:uB} {w':uC} (ho:ops[i]?=some o) (hw:Region.wanted o (yielded ops tmps)=true)
  (hr:(execOp (Act.eval ⟨tmps,[]⟩) o).run P w=.ok (.value v) w') (h:e9 P f R (.inRegion ops rest::k) (Act.put ⟨tmps,[]⟩ o.dst v).tmps w') :
  e9 P f R (.inRegion ops (i::rest)::k) tmps w:=by
 refine e9.step (λcs=>?_) h;have hg:=stepGR_op (P:=P) (b:=bf f) (a:=⟨tmps,f.ds⟩) (k:=k) (cs:=cs) (w:=w) (rest:=rest) ho hw;rw[Cq,Cp hr (by simp)] at hg;have qS:∀ v,((bf f).atR ⟨tmps,f.ds⟩ (.inRegion ops (i::rest)::k)).finish v=(bf f).atR (Act.put ⟨tmps,f.ds⟩ o.dst v) (.inRegion ops rest::k):=by
  intro v;rw[Frame.finish_atR,ho];rfl
 refine step_lone_go ?_;rw[←put_eq,hg,←qS];simp [stepG.apply,hr]
theorem e9.skip {w':uC} (ho:ops[i]?=some o) (hw:Region.wanted o (yielded ops tmps)=true)
  (hr:(execOp (Act.eval ⟨tmps,[]⟩) o).run P w=.ok .skip w') (h:e9 P f R (.inRegion ops rest::k) (Act.put ⟨tmps,[]⟩ o.dst undef).tmps w') :
  e9 P f R (.inRegion ops (i::rest)::k) tmps w:=by
 refine e9.step (λcs=>?_) h;have hg:=stepGR_op (P:=P) (b:=bf f) (a:=⟨tmps,f.ds⟩) (k:=k) (cs:=cs) (w:=w) (rest:=rest) ho hw;rw[Cq,Cp hr (by simp)] at hg;have qS:∀ v,((bf f).atR ⟨tmps,f.ds⟩ (.inRegion ops (i::rest)::k)).finish v=(bf f).atR (Act.put ⟨tmps,f.ds⟩ o.dst v) (.inRegion ops rest::k):=by
  intro v;rw[Frame.finish_atR,ho];rfl
 refine step_lone_go ?_;rw[←put_eq,hg,←qS];simp [stepG.apply,hr]
theorem e9.zi (ho:ops[i]?=some o) (hw:Region.wanted o (yielded ops tmps)=false)
  (h:e9 P f R (.inRegion ops rest::k) (Act.put ⟨tmps,[]⟩ o.dst undef).tmps w):e9 P f R (.inRegion ops (i::rest)::k) tmps w:=by
 refine e9.step (λcs=>?_) h;have hs:=stepR_op_skip (P:=P) (b:=bf f) (a:=⟨tmps,f.ds⟩) (k:=k) (cs:=cs) (w:=w) (ops:=ops) (i:=i) (rest:=rest) (by simp [ho];simpa using hw);simp only[ho,zac] at hs;rw[←put_eq];exact hs
theorem e9.call {f':FuncId} {args:uD uB} {w':uC} (ho:ops[i]?=some o) (hw:Region.wanted o (yielded ops tmps)=true)
  (hr:(execOp (Act.eval ⟨tmps,[]⟩) o).run P w=.ok (.enter f' args) w')
  (h:Calls P f' args w' λe w2=>∃ v,e=.returned v/\e9 P f R (.inRegion ops rest::k) (Act.put ⟨tmps,[]⟩ o.dst v).tmps w2) :
  e9 P f R (.inRegion ops (i::rest)::k) tmps w:=by
 intro cs;have hg:=stepGR_op (P:=P) (b:=bf f) (a:=⟨tmps,f.ds⟩) (k:=k) (cs:=cs) (w:=w) (rest:=rest) ho hw;rw[Cq,Cp hr (by simp)] at hg;have qS:∀ v,((bf f).atR ⟨tmps,f.ds⟩ (.inRegion ops (i::rest)::k)).finish v=(bf f).atR (Act.put ⟨tmps,f.ds⟩ o.dst v) (.inRegion ops rest::k):=by
  intro v;rw[Frame.finish_atR,ho];rfl
 obtain ⟨e,w2,fr,⟨v,rfl,hF⟩,Gi,_,Oh⟩:=h ((bf f).atR ⟨tmps,f.ds⟩ (.inRegion ops (i::rest)::k)::cs);have BE:Go.step P (lone ((bf f).atR ⟨tmps,f.ds⟩ (.inRegion ops (i::rest)::k)) cs w) =
   .next (lone (Frame.enter P f' args .normal) ((bf f).atR ⟨tmps,f.ds⟩ (.inRegion ops (i::rest)::k)::cs) w') :=
  step_lone_go (by rw[hg];simp [stepG.apply,hr,Frame.atR])
 obtain ⟨e,w3,fr',hR,hc,h1⟩:=hF cs;refine ⟨e,w3,fr',hR,Comes.of_steps (.head BE (Gi.trans (.one ?_))) hc,h1⟩;rw[←put_eq,←qS];exact step_leave_returned Oh
theorem e9.QU (h:e9 P f R k tmps w):e9 P f R (.inRegion ops []::k) tmps w:=e9.step (λ_=>stepR_region_end) h
end ops
section control
variable {P:uG} {f:Ctx} {R:Ending->uC->Prop} {k:List Item} {tmps:uD uB} {w:uC}
theorem e9.seq {x y:Code} (h:e9 P f R (.code x::.code y::k) tmps w):e9 P f R (.code (.seq x y)::k) tmps w:=e9.step (λ_=>stepR_seq) h
theorem e9.skipC (h:e9 P f R k tmps w):e9 P f R (.code .skip::k) tmps w:=e9.step (λ_=>stepR_skip) h
theorem e9.inBlock {id:Nat} (h:e9 P f R k tmps w):e9 P f R (.inBlock id::k) tmps w:=e9.step (λ_=>stepR_inBlock) h
theorem e9.block {id:Nat} {c:Code} (h:e9 P f R (.code c::.inBlock id::k) tmps w):e9 P f R (.code (.block id c)::k) tmps w:=e9.step (λ_=>stepR_block) h
theorem e9.loop {c:Code} (h:e9 P f R (.code c::.inLoop c::k) tmps w):e9 P f R (.code (.loop c)::k) tmps w:=e9.step (λ_=>stepR_loop) h
theorem e9.inLoop {c:Code} (h:e9 P f R (.code c::.inLoop c::k) tmps w):e9 P f R (.inLoop c::k) tmps w:=e9.step (λ_=>stepR_inLoop) h
theorem e9.exit {id:Nat} {k':O Item} (hk:exitTo id k=some k') (h:e9 P f R k' tmps w):e9 P f R (.code (.exit id)::k) tmps w:=e9.step (λ_=>stepR_exit hk) h
theorem e9.cond {c:uH} {x y:Code} {t:Bool} (hc:Act.eval ⟨tmps,[]⟩ c=.bool t) (h:e9 P f R (.code (if t then x else y)::k) tmps w):e9 P f R (.code (.cond c x y)::k) tmps w :=
 e9.step (λ_=>stepR_cond (by rw[Cq];exact hc)) h
theorem e9.region {id:Nat} {ops:uD Oper} (h:e9 P f R (.inRegion ops (List.range ops.size)::k) tmps w):e9 P f R (.code (.region id ops false)::k) tmps w:=e9.step (λ_=>stepR_region) h
theorem e9.BF {id:Nat} {ops:uD Oper} (h:∀ t,e9 P f R (.inRegion ops (Region.schedule (P.follows .mixedOrders) ops t)::k) tmps { w with drawn:=w.drawn+1 }) :
  e9 P f R (.code (.region id ops true)::k) tmps w:=e9.step (λ_=>stepR_region_draw) (h _)
theorem e9.ret {f:FuncId} {fn:Func} {v:uB} (hf:P.funcs[f]?=some fn) (hr:(results fn tmps).run P w=.ok v w) (hR:R (.returned v) w):e9 P (.of f) R (.code .ret::k) tmps w :=
 λcs=>⟨.returned v,w,_,hR,.one (stepR_ret rfl),rfl,rfl,rfl,rfl,fn,hf,hr⟩
theorem e9.fin {f:FuncId} {fn:Func} {v:uB} (hf:P.funcs[f]?=some fn) (hr:(results fn tmps).run P w=.ok v w) (hR:R (.returned v) w):e9 P (.of f) R [] tmps w :=
 λcs=>⟨.returned v,w,_,hR,.one (stepR_end rfl),rfl,rfl,rfl,rfl,fn,hf,hr⟩
theorem e9.Gj {f:FuncId} {l:Nat} (hR:R (.returned (.bool true)) w):e9 P ⟨f,[],some l⟩ R [] tmps w :=
 λcs=>⟨.returned (.bool true),w,_,hR,Steps.refl _ _,rfl,tmps,rfl⟩
theorem e9.calls {f:FuncId} {fn:Func} {c:Code} {args:uD uB} (hf:P.funcs[f]?=some fn) (hb:fn.body=some c)
  (h:e9 P (.of f) R [.code c] (args++Array.replicate (fn.ntmps-args.size) undef) w):Calls P f args w R:=by
 intro cs;have BE:Frame.enter P f args .normal=(bf (.of f)).atR ⟨args++Array.replicate (fn.ntmps-args.size) undef,[]⟩ [.code c]:=by
  simp [Frame.enter,Frame.atR,hf,hb,bf]
 obtain ⟨e,w',fr,hR,hc,h1,h2⟩:=h cs;rw[←BE] at hc;exact ⟨e,w',fr,hR,hc,h1,h2⟩
end control
structure Step (base:Nat) (g:b8) (w:uC) (st:St) (g':b8) (w':uC) (st':St):Prop where
 dZ:wo g w st g' w' st'
 below:Below base w w'
 lim:∀ b,b<base->g'.lim b=g.lim b
 frame:∀ b,b<w.heap.size->¬ vU g st b->w'.heap[b]?=w.heap[b]?/\g'.lim b=g.lim b
 fresh:∀ b,b<w.heap.size->vU g' st' b->vU g st b
theorem Step.refl (base:Nat) (g:b8) (w:uC) (st:St):Step base g w st g w st:=⟨.refl _ _ _,.refl _ _,λ_ _=>rfl,λ_ _ _=>⟨rfl,rfl⟩,λ_ _ h=>h⟩
theorem Step.trans {base:Nat} {g1 g2 g3:b8} {w1 w2 w3:uC} {s1 s2 s3:St} (h:Step base g1 w1 s1 g2 w2 s2) (k:Step base g2 w2 s2 g3 w3 s3):Step base g1 w1 s1 g3 w3 s3 :=
 ⟨h.dZ.trans k.dZ,h.below.trans k.below,λb hb=>(k.lim b hb).trans (h.lim b hb),
  λb hb hn=>have k1:=k.frame b (zbo hb h.dZ.df.size) (λho=>hn (h.fresh b hb ho));have h1:=h.frame b hb hn;⟨k1.1.trans h1.1,k1.2.trans h1.2⟩,
  λb hb ho=>h.fresh b hb (k.fresh b (zbo hb h.dZ.df.size) ho)⟩
theorem s5.step {S:Start} {g g':b8} {w w':uC} {st st':St} (h:s5 S g w st) (k:Step S.base g w st g' w' st'):s5 S g' w' st' :=
 ⟨h.dZ.trans k.dZ,h.below.trans k.below,λb hb=>(k.lim b hb).trans (h.lim b hb),
  λb hb hn=>have k1:=k.frame b (zbo hb h.dZ.df.size) (λho=>hn (h.fresh b hb ho));have h1:=h.frame b hb hn;⟨k1.1.trans h1.1,k1.2.trans h1.2⟩,
  λb hb ho=>h.fresh b hb (k.fresh b (zbo hb h.dZ.df.size) ho)⟩
theorem s5.refl (S:Start):s5 S S.g S.w S.st:=⟨.refl _ _ _,.refl _ _,λ_ _=>rfl,λ_ _ _=>⟨rfl,rfl⟩,λ_ _ h=>h⟩
theorem s5.toStep {S:Start} {g:b8} {w:uC} {st:St} (h:s5 S g w st):Step S.base S.g S.w S.st g w st:=⟨h.dZ,h.below,h.lim,h.frame,h.fresh⟩
def bA (P:uG) (f:Ctx) (N:Nat) (S:Start) (Q:EV->St->Prop) (todo:List Item) (env:Env) (st:St):Prop :=
 ∀ g w tmps,Inv g S.base w st->s5 S g w st->eB g w st env tmps->tmps.size=N->e9 P f (pD S Q) todo tmps w
def cv:uB->D
 | .agg cs=>if cs.toList.all (·.oneCell') then .agg (cs.toList.map D.ex) else .ex (.agg cs)
 | v=>.ex v
theorem rY (lim:Nat->Nat) (w:uC) (v:uB):dY lim w (cv v) v:=by
 cases v <;> simp only[cv] <;> try exact .ex _
 rename_i cs;split
 ·rename_i h;refine .agg _ _ (by simp) ?_ ?_
  ·intro i u hu;rw[zbf] at h;exact h u (by
    have:u∈cs:=Array.mem_of_getElem? hu;simpa using this)
  ·intro i c u hc hu;rw[zbe] at hc;have:cs.toList[i]?=some u:=by simpa using hu
   rw[this] at hc;simp only[Option.map_some,Option.some.injEq] at hc;subst hc;exact .ex u
 ·exact .ex _
def df (env:Env):uH->Option EV
 | .tmp t=>lookup t env
 | .const (.agg cs)=>match cs.toList.all (·.oneCell') with
  | true=>some (.d (.agg (cs.toList.map D.ex)))
  | false=>some (.d (.ex (.agg cs)))
 | .const v=>some (.d (.ex v))
 | .func f=>some (.d (.ex (.func (.func f) #[] #[])))
 | .global _=>none
theorem QV (env:Env) (v:uB):df env (.const v)=some (.d (cv v)):=by
 cases v <;> try rfl
 rename_i cs;simp only[df,cv];cases cs.toList.all (·.oneCell') <;> rfl
theorem aR {g:b8} {w:uC} {st:St} {env:Env} {tmps:uD uB} (h:eB g w st env tmps) {x:uH} {e:EV} (hx:df env x=some e):bP g w st e (Act.eval ⟨tmps,[]⟩ x):=by
 cases x with
 | tmp t =>
  obtain ⟨v,h1,h2⟩:=h t e hx;simp only[Act.eval,zau,h1,zcj];exact h2
 | const v =>
  rw[QV,Option.some.injEq] at hx;subst hx;exact .d _ _ (rY _ _ v)
 | func f =>
  simp only[df,Option.some.injEq] at hx;subst hx;exact .d _ _ (.ex _)
 | «global» x=>simp [df] at hx
section inv
variable {g:b8} {w:uC} {st:St} {v:uB}
theorem bP.bO {u:uB} (h:bP g w st (.d (.ex u)) v):v=u:=by
 cases h with|d _ _ h=>cases h;rfl
end inv
section control
variable {P:uG} {f:Ctx} {N:Nat} {S:Start} {Q:EV->St->Prop} {k:List Item} {env:Env} {st:St}
theorem bA.seq {x y:Code} (h:bA P f N S Q (.code x::.code y::k) env st):bA P f N S Q (.code (.seq x y)::k) env st:=λg w t a b c d=>.seq (h g w t a b c d)
theorem bA.skip (h:bA P f N S Q k env st):bA P f N S Q (.code .skip::k) env st:=λg w t a b c d=>.skipC (h g w t a b c d)
theorem bA.inBlock {id:Nat} (h:bA P f N S Q k env st):bA P f N S Q (.inBlock id::k) env st:=λg w t a b c d=>.inBlock (h g w t a b c d)
theorem bA.block {id:Nat} {c:Code} (h:bA P f N S Q (.code c::.inBlock id::k) env st):bA P f N S Q (.code (.block id c)::k) env st:=λg w t a b c d=>.block (h g w t a b c d)
theorem bA.inLoop {c:Code} (h:bA P f N S Q (.code c::.inLoop c::k) env st):bA P f N S Q (.inLoop c::k) env st:=λg w t a b c d=>.inLoop (h g w t a b c d)
theorem bA.loop0 {c:Code} (h:bA P f N S Q (.code c::.inLoop c::k) env st):bA P f N S Q (.code (.loop c)::k) env st:=λg w t a b c d=>.loop (h g w t a b c d)
theorem bA.exit {id:Nat} {k':O Item} (hk:exitTo id k=some k') (h:bA P f N S Q k' env st):bA P f N S Q (.code (.exit id)::k) env st:=λg w t a b c d=>.exit hk (h g w t a b c d)
theorem bA.cond {c:uH} {x y:Code} {b:Bool} (hc:df env c=some (.d (.ex (.bool b)))) (ht:b=true->bA P f N S Q (.code x::k) env st) (hf:b=false->bA P f N S Q (.code y::k) env st) :
  bA P f N S Q (.code (.cond c x y)::k) env st:=by
 intro g w t hi hh he hn;refine e9.cond (t:=b) (aR he hc).bO ?_;cases b with
 | true=>exact ht rfl g w t hi hh he hn
 | false=>exact hf rfl g w t hi hh he hn
def eC (x y:EV):Prop:=∀ (g:b8) (w:uC) (st:St) (v:uB),bP g w st x v->bP g w st y v
theorem eC.ak (x:EV):eC x x:=λ_ _ _ _ h=>h
theorem eC.any (x:EV):eC x (.d .any):=λ_ _ _ v _=>.d _ _ (.any v)
theorem eC.cm (sz:Nat) (rows:O (O D)) (t:Nat):eC (.cm sz rows t) (.d (.sl sz rows)):=λ_ _ _ v h=>by cases h with|cm _ _ _ _ _ _ hd _ _ _=>exact .d _ _ hd
theorem eC.nil (sz:Nat):eC (.d (.ex (.slice none 0 0))) (.d (.sl sz [])):=λ_ _ _ v h=>by cases h.bO;exact .d _ _ (.nil sz _)
theorem D.Py {lim:Nat->Nat} {w:uC} {sz:Nat} {v:uB} (h:dY lim w (.e0 sz) v):dY lim w (.sl sz []) v:=by
 cases h with
 | e0 _ A h =>
  rcases h with rfl|⟨b,off,rfl⟩
  ·exact .nil sz _
  ·exact .sl sz [] b off 0 (zaq _) (by simp) (by simp) (by simp)
theorem eC.e0 (sz:Nat):eC (.d (.e0 sz)) (.d (.sl sz [])):=λ_ _ _ v h=>by cases h with|d _ _ h=>exact .d _ _ (D.Py h)
def dz (env:Env):Env->Prop
 | []=>True
 | (i,y)::t=>(∃ x,lookup i env=some x/\eC x y)/\dz env t
theorem dz.get {env:Env}:∀ {env':Env},dz env env'->∀ i y,lookup i env'=some y->∃ x,lookup i env=some x/\eC x y
 | [],_,i,y,h=>by simp [lookup] at h
 | (j,z)::t,⟨⟨x,hx,hle⟩,ht⟩,i,y,h=>by
  unfold lookup at h;cases hb:Nat.beq i j with
  | true =>
   rw[hb] at h;simp only[Option.some.injEq] at h;have:=zaw hb;subst this;subst h;exact ⟨x,hx,hle⟩
  | false =>
   rw[hb] at h;exact ht.get i y h
theorem eB.sub {g:b8} {w:uC} {tmps:uD uB} {env env':Env} (h:eB g w st env tmps) (hs:dz env env'):eB g w st env' tmps:=by
 intro i y hy;obtain ⟨x,hx,hle⟩:=hs.get i y hy;obtain ⟨v,h1,h2⟩:=h i x hx;exact ⟨v,h1,hle _ _ _ _ h2⟩
theorem bA.sub {todo:O Item} {env':Env} (hs:dz env env') (h:bA P f N S Q todo env' st):bA P f N S Q todo env st :=
 λg w t a b c d=>h g w t a b (c.sub hs) d
theorem bA.loop {c:Code} {ι:Type} (E:ι->Env) (T:ι->St) (I:ι->Prop) (μ:ι->Nat) (i0:ι) (h0:I i0) (hE:dz env (E i0)) (hT:st=T i0)
  (step:∀ i,I i->(∀ j,I j->μ j<μ i->bA P f N S Q (.inLoop c::k) (E j) (T j))->bA P f N S Q (.code c::.inLoop c::k) (E i) (T i)) :
  bA P f N S Q (.code (.loop c)::k) env st:=by
 have key:∀ n i,μ i<n->I i->bA P f N S Q (.code c::.inLoop c::k) (E i) (T i):=by
  intro n
  induction n with
  | zero=>intro i hi;omega
  | succ n ih =>
   intro i hi hI;exact step i hI λj hj cT=>.inLoop (ih j (by omega) hj)
 subst hT;exact .loop0 (.sub hE (key _ i0 (zfw _) h0))
theorem bA.join {todo:O Item} {ι:Type} (k':O Item) (E:ι->Env) (T:ι->St) (I:ι->Prop)
  (hk:∀ i,I i->bA P f N S Q k' (E i) (T i)) (h:(∀ i,I i->bA P f N S Q k' (E i) (T i))->bA P f N S Q todo env st):bA P f N S Q todo env st:=h hk
theorem bA.iq {x y:Code} {ι:Type} (E:ι->Env) (T:ι->St) (I:ι->Prop)
  (hk:∀ i,I i->bA P f N S Q (.code y::k) (E i) (T i)) (h:(∀ i,I i->bA P f N S Q (.code y::k) (E i) (T i))->bA P f N S Q (.code x::.code y::k) env st) :
  bA P f N S Q (.code (.seq x y)::k) env st:=.seq (h hk)
theorem bA.Fh {f:FuncId} {fn:Func} (hf:P.funcs[f]?=some fn) (hr:fn.results=#[]) (hQ:Q (.dN []) st):bA P (.of f) N S Q [] env st:=by
 intro g w tmps hi hh he hn;refine e9.fin hf (results_none hr tmps P w) ⟨_,_,st,g,rfl,hQ,.dN _ _ rfl (by simp),hi,hh⟩
end control
def cr (P:uG) (f:Ctx) (N:Nat) (S:Start) (Q:EV->St->Prop) (ops rest:List Oper) (k:List Item) (env:Env) (st:St):Prop :=
 ∀ i,(∀ j:Nat,rest[j]?=ops[i+j]?)->bA P f N S Q (.inRegion ops.toArray (List.range' i rest.length)::k) env st
def Env.put (env:Env):Option Tmp->EV->Env
 | some d,x=>(d,x)::env
 | none,_=>env
def hZ (N:Nat):Option Tmp->Bool
 | some d=>Nat.ble (d+1) N
 | none=>true
theorem rZ {g:b8} {w:uC} {st:St} {env:Env} {tmps:uD uB} {d:J Tmp} {x:EV} {v:uB} (h:eB g w st env tmps) (hd:hZ tmps.size d=true) (hv:bP g w st x v) :
  eB g w st (env.put d x) (Act.put ⟨tmps,[]⟩ d v).tmps:=by
 cases d with
 | none=>exact h
 | some d=>exact h.put (zaf hd) hv
theorem js {tmps:uD uB} {d:J Tmp} {v:uB}:(Act.put ⟨tmps,[]⟩ d v).tmps.size=tmps.size:=by
 cases d <;> simp [Act.put]
section regions
variable {P:uG} {f:Ctx} {N:Nat} {S:Start} {Q:EV->St->Prop} {k:List Item} {env:Env} {st:St} {ops rest:List Oper}
theorem bA.region {id:Nat} {l:O Oper} (h:cr P f N S Q l l k env st):bA P f N S Q (.code (.region id l.toArray false)::k) env st:=by
 intro g w t a b c d;refine e9.region ?_;have:=h 0 (by simp) g w t a b c d;rw[List.range_eq_range'];simpa using this
theorem cr.nil (h:bA P f N S Q k env st):cr P f N S Q ops [] k env st:=λi _ g w t a b c d=>.QU (h g w t a b c d)
def zj (P:uG) (base:Nat) (env:Env) (st:St) (o:Oper) (x:EV) (st':St):Prop :=
 ∀ g w tmps,Inv g base w st->eB g w st env tmps->∃ v g' w',(execOp (Act.eval ⟨tmps,[]⟩) o).run P w=.ok (.value v) w'/\bP g' w' st' x v/\Inv g' base w' st'/\Step base g w st g' w' st'
def JT (P:uG) (base:Nat) (env:Env) (st:St) (o:Oper) (st':St):Prop :=
 ∀ g w tmps,Inv g base w st->eB g w st env tmps->∃ g' w',(execOp (Act.eval ⟨tmps,[]⟩) o).run P w=.ok .skip w'/\Inv g' base w' st'/\Step base g w st g' w' st'
def aJ (P:uG) (env:Env) (st:St) (o:Oper) (x:EV):Prop :=
 ∀ g base w tmps,Inv g base w st->eB g w st env tmps->∃ v,bP g w st x v/\∀ w',Below w.heap.size w w'->(execOp (Act.eval ⟨tmps,[]⟩) o).run P w'=.ok (.value v) w'
theorem aJ.v {base:Nat} {o:Oper} {x:EV} (h:aJ P env st o x):zj P base env st o x st :=
 λg w t a b=>let ⟨v,h1,h2⟩:=h g base w t a b;⟨v,g,w,h2 w (.refl _ _),h1,a,.refl _ _ _ _⟩
theorem jE {i n:Nat}:List.range' i (n+1)=i::List.range' (i+1) n:=by rw[List.range'_succ]
theorem cr.op {o:Oper} {x:EV} {st':St} (hg:o.guard=none) (hd:hZ N o.dst=true) (h:zj P S.base env st o x st') (hk:cr P f N S Q ops rest k (env.put o.dst x) st') :
  cr P f N S Q ops (o::rest) k env st:=by
 intro i hi g w tmps hinv hh he hn;obtain ⟨v,g',w',hr,hx,eF,hs⟩:=h g w tmps hinv he;have ho:ops.toArray[i]?=some o:=by simpa using (hi 0).symm
 have hw:Region.wanted o (yielded ops.toArray tmps)=true:=by simp [Region.wanted,hg]
 rw[zad,jE];refine e9.value ho hw hr ?_;subst hn;exact hk (i+1) (λj=>by have:=hi (j+1);simpa [zco,zdo 1 j] using this) g' w' _ eF (hh.step hs) (rZ (he.mono hs.dZ) hd hx) js
theorem cr.opU {o:Oper} {st':St} (hg:o.guard=none) (hd:hZ N o.dst=true) (h:JT P S.base env st o st') (hk:cr P f N S Q ops rest k (env.put o.dst (.d .any)) st') :
  cr P f N S Q ops (o::rest) k env st:=by
 intro i hi g w tmps hinv hh he hn;obtain ⟨g',w',hr,eF,hs⟩:=h g w tmps hinv he;have ho:ops.toArray[i]?=some o:=by simpa using (hi 0).symm
 have hw:Region.wanted o (yielded ops.toArray tmps)=true:=by simp [Region.wanted,hg]
 rw[zad,jE];refine e9.skip ho hw hr ?_;subst hn;exact hk (i+1) (λj=>by have:=hi (j+1);simpa [zco,zdo 1 j] using this) g' w' _ eF (hh.step hs) (rZ (he.mono hs.dZ) hd (.d _ _ (.any _))) js
end regions
section q
variable {P:uG} {env:Env} {st:St} {d:Option Tmp} {ty:uE} {pos:String} {after:uD Edge} {gd:Option (Nat×Bool)}
theorem bT {x:uH} {e:EV} (hx:df env x=some e):aJ P env st ⟨d,.move x,ty,pos,after,gd⟩ e :=
 λg base w tmps hi he=>⟨_,aR he hx,λ_ _=>rfl⟩
theorem LF {x:uH} {e:EV} (hx:df env x=some e):aJ P env st ⟨d,.assign x,ty,pos,after,gd⟩ e :=
 λg base w tmps hi he=>⟨_,aR he hx,λ_ _=>rfl⟩
theorem r3 {o:Oper} {r:uB} (h:∀ g w tmps w',eB g w st env tmps->(execOp (Act.eval ⟨tmps,[]⟩) o).run P w'=.ok (.value r) w'):aJ P env st o (.d (.ex r)) :=
 λg base w tmps hi he=>⟨r,.d _ _ (.ex r),λw' _=>h g w tmps w' he⟩
variable {t t2:uE} {x y:uH}
section two
variable {k:IntKind} {a b:Int} (hx:df env x=some (.d (.ex (.int k a)))) (hy:df env y=some (.d (.ex (.int k b))))
include hx hy
theorem W0:aJ P env st ⟨d,.binOp .lss t x y t2,ty,pos,after,gd⟩ (.d (.ex (.bool (decide (a<b))))):=r3 λg w tmps w' he=>by
 simp [execOp,(aR he hx).bO,(aR he hy).bO,eqGuard,binOp,Op.intCmp]
theorem W3:aJ P env st ⟨d,.binOp .leq t x y t2,ty,pos,after,gd⟩ (.d (.ex (.bool (decide (a<=b))))):=r3 λg w tmps w' he=>by
 simp [execOp,(aR he hx).bO,(aR he hy).bO,eqGuard,binOp,Op.intCmp]
theorem W4:aJ P env st ⟨d,.binOp .gtr t x y t2,ty,pos,after,gd⟩ (.d (.ex (.bool (decide (a > b))))):=r3 λg w tmps w' he=>by
 simp [execOp,(aR he hx).bO,(aR he hy).bO,eqGuard,binOp,Op.intCmp]
theorem W5:aJ P env st ⟨d,.binOp .geq t x y t2,ty,pos,after,gd⟩ (.d (.ex (.bool (decide (a>=b))))):=r3 λg w tmps w' he=>by
 simp [execOp,(aR he hx).bO,(aR he hy).bO,eqGuard,binOp,Op.intCmp]
theorem q_eql:aJ P env st ⟨d,.binOp .eql t x y t2,ty,pos,after,gd⟩ (.d (.ex (.bool (a==b)))):=r3 λg w tmps w' he=>by
 simp [execOp,(aR he hx).bO,(aR he hy).bO,eqGuard,binOp,Op.intCmp]
theorem W6:aJ P env st ⟨d,.binOp .neq t x y t2,ty,pos,after,gd⟩ (.d (.ex (.bool (a != b)))):=r3 λg w tmps w' he=>by
 simp [execOp,(aR he hx).bO,(aR he hy).bO,eqGuard,binOp,Op.intCmp]
theorem q_add {c:Int} (hc:k.wrap (a+b)=c):aJ P env st ⟨d,.binOp .add t x y t2,ty,pos,after,gd⟩ (.d (.ex (.int k c))):=r3 λg w tmps w' he=>by
 simp [execOp,(aR he hx).bO,(aR he hy).bO,eqGuard,binOp,Op.intArith,hc]
theorem q_sub {c:Int} (hc:k.wrap (a-b)=c):aJ P env st ⟨d,.binOp .sub t x y t2,ty,pos,after,gd⟩ (.d (.ex (.int k c))):=r3 λg w tmps w' he=>by
 simp [execOp,(aR he hx).bO,(aR he hy).bO,eqGuard,binOp,Op.intArith,hc]
end two
section shift
variable {k k':IntKind} {a b:Int} (hx:df env x=some (.d (.ex (.int k a)))) (hy:df env y=some (.d (.ex (.int k' b))))
include hx hy
theorem W8 {c:Int} (hb:0<=b) (hc:a.fdiv (2 ^ (min b.toNat k.bits))=c):aJ P env st ⟨d,.binOp .shr t x y t2,ty,pos,after,gd⟩ (.d (.ex (.int k c))):=r3 λg w tmps w' he=>by
 have:¬ b<0:=by omega
 simp [execOp,(aR he hx).bO,(aR he hy).bO,eqGuard,binOp,Op.shift,this,hc]
end shift
section strings
variable {a b:List uA} (hx:df env x=some (.d (.ex (.string ⟨a.toArray⟩)))) (hy:df env y=some (.d (.ex (.string ⟨b.toArray⟩))))
include hx hy
theorem XT:aJ P env st ⟨d,.binOp .eql t x y t2,ty,pos,after,gd⟩ (.d (.ex (.bool (a==b)))):=r3 λg w tmps w' he=>by
 simp [execOp,(aR he hx).bO,(aR he hy).bO,eqGuard,binOp,Op.stringOp]
theorem XU:aJ P env st ⟨d,.binOp .neq t x y t2,ty,pos,after,gd⟩ (.d (.ex (.bool (a != b)))):=r3 λg w tmps w' he=>by
 simp [execOp,(aR he hx).bO,(aR he hy).bO,eqGuard,binOp,Op.stringOp,bne]
end strings
theorem Gk (ht:P.underlying t=some .bool) (a b:Bool) (n:Nat) (w:uC):(Op.equalIn (n+1) t (.bool a) (.bool b)).run P w=.ok (a==b) w:=by
 simp [Op.equalIn,run_underlying ht]
section bools
variable {a b:Bool} (hx:df env x=some (.d (.ex (.bool a))))
include hx
theorem q_not:aJ P env st ⟨d,.unOp .not t x,ty,pos,after,gd⟩ (.d (.ex (.bool (!a)))):=r3 λg w tmps w' he=>by
 simp [execOp,(aR he hx).bO,Op.unary]
theorem Sk (ht:P.underlying t=some .bool) (hy:df env y=some (.d (.ex (.bool b)))):aJ P env st ⟨d,.binOp .eql t x y t2,ty,pos,after,gd⟩ (.d (.ex (.bool (a==b)))):=r3 λg w tmps w' he=>by
 have h:=Gk ht a b 9999 w';simp [execOp,(aR he hx).bO,(aR he hy).bO,eqGuard,binOp,Op.equal,Op.maxDepth,h]
theorem Gl (ht:P.underlying t=some .bool) (hy:df env y=some (.d (.ex (.bool b)))):aJ P env st ⟨d,.binOp .neq t x y t2,ty,pos,after,gd⟩ (.d (.ex (.bool (a != b)))):=r3 λg w tmps w' he=>by
 have h:=Gk ht a b 9999 w';simp [execOp,(aR he hx).bO,(aR he hy).bO,eqGuard,binOp,Op.equal,Op.maxDepth,h,bne]
theorem QW {z:uH} {b q:Bool} (hy:df env y=some (.gd a (.d (.ex (.bool b))))) (hz:df env z=some (.d (.ex (.bool q)))) :
  aJ P env st ⟨d,.pick x y z,ty,pos,after,gd⟩ (.d (.ex (.bool (if a=true then b else q)))):=r3 λg w tmps w' he=>by
 cases a with
 | false=>simp [execOp,(aR he hx).bO,(aR he hz).bO,asBool]
 | true =>
  have:=aR he hy;cases this with
  | gd _ _ _ h0 h=>simp [execOp,(aR he hx).bO,(h rfl).bO,asBool]
theorem Sl {z:uH} {b q:Bool} (hy:df env y=some (.d (.ex (.bool q)))) (hz:df env z=some (.gd (!a) (.d (.ex (.bool b))))) :
  aJ P env st ⟨d,.pick x y z,ty,pos,after,gd⟩ (.d (.ex (.bool (if a=true then q else b)))):=r3 λg w tmps w' he=>by
 cases a with
 | true=>simp [execOp,(aR he hx).bO,(aR he hy).bO,asBool]
 | false =>
  have:=aR he hz;cases this with
  | gd _ _ _ h0 h=>simp [execOp,(aR he hx).bO,(h rfl).bO,asBool]
end bools
theorem JU {k k':IntKind} {n c:Int} (hs:P.underlying t=some (.int k)) (ht:P.underlying t2=some (.int k')) (hx:df env x=some (.d (.ex (.int k n)))) (hc:k'.wrap n=c) :
  aJ P env st ⟨d,.convert t t2 x,ty,pos,after,gd⟩ (.d (.ex (.int k' c))):=r3 λg w tmps w' he=>by
 simp [execOp,(aR he hx).bO,convert,run_underlying hs,run_underlying ht,Conv.intToInt,hc]
theorem r5 {a:O uA} (ht:P.underlying t=some .string) (hx:df env x=some (.d (.ex (.string ⟨a.toArray⟩)))) :
  aJ P env st ⟨d,.call ⟨.builtin .len,#[x],#[t]⟩,ty,pos,after,gd⟩ (.d (.ex (.int .i64 a.length))):=r3 λg w tmps w' he=>by
 simp [execOp,(aR he hx).bO,resolve,invoke,builtin,Builtin.len_,run_underlying ht,goInt,ByteArray.size_mk']
theorem FP {e:uE} (ht:P.underlying t=some (.slice e)) {ρ:uH->uB} {A:J Addr} {n c:Nat} (hv:ρ x=.slice A n c) (w:uC) :
  (execOp ρ ⟨d,.call ⟨.builtin .len,#[x],#[t]⟩,ty,pos,after,gd⟩).run P w=.ok (.value (.int .i64 n)) w:=by
 simp [execOp,hv,resolve,invoke,builtin,Builtin.len_,run_underlying ht,goInt]
theorem FQ {lim:Nat->Nat} {w:uC} {sz:Nat} {rows:O (O D)} {v:uB} (h:dY lim w (.sl sz rows) v):∃ A c,v=.slice A rows.length c:=by
 cases h with
 | nil _ A=>exact ⟨A,0,rfl⟩
 | sl _ _ b off cap=>exact ⟨_,_,rfl⟩
theorem Sn {a:O uA} {k:IntKind} {i:Int} {c:uA} (ht:P.underlying t=some .string) (hx:df env x=some (.d (.ex (.string ⟨a.toArray⟩)))) (hy:df env y=some (.d (.ex (.int k i))))
  (h0:0<=i) (hc:a[i.toNat]?=some c):aJ P env st ⟨d,.index t x y,ty,pos,after,gd⟩ (.d (.ex (.int .u8 (c.toNat:Int)))):=r3 λg w tmps w' he=>by
 have hl:i.toNat<a.length:=(zae.1 hc).1;have hb:(⟨a.toArray⟩:ByteArray)[i.toNat]?=some c:=by
  rw[ByteArray.getElem?_lt' _ _ (by simpa [ByteArray.size] using hl)];have:=(zae.1 hc).2;simpa [ByteArray.getElem_eq_getElem_data] using this
 simp [execOp,(aR he hx).bO,(aR he hy).bO,Instr.index,asIntOf,run_underlying ht,h0,hb]
theorem DI {e:uE} {ρ:uH->uB} {A:Addr} {n c:Nat} {k:IntKind} {i:Int} {inf:TypeInfo} (ht:P.underlying t=some (.slice e)) (hi:P.info? e=some inf)
  (hv:ρ x=.slice (some A) n c) (hy:ρ y=.int k i) (h0:0<=i) (hn:i<n) (w:uC) :
  (execOp ρ ⟨d,.indexAddr t x y,ty,pos,after,gd⟩).run P w=.ok (.value (.pointer (some (A.add (i.toNat*inf.size))))) w:=by
 simp [execOp,hv,hy,Instr.indexAt,asIntOf,run_underlying ht,sizeOf,typeInfo,hi,h0,hn]
theorem sl_ro {lim:Nat->Nat} {w:uC} {sz:Nat} {rows:O (O D)} {v:uB} {n:Nat} {row:O D} (h:dY lim w (.sl sz rows) v) (hr:rows[n]?=some row) :
  ∃ b off c,v=.slice (some ⟨b,off,none⟩) rows.length c/\n<rows.length/\dY lim w (.ro row) (.pointer (some (Addr.add ⟨b,off,none⟩ (n*sz)))):=by
 cases h with
 | nil=>simp at hr
 | sl _ _ b off cap hc s6 hx fN =>
  have hn:=(zae.1 hr).1;refine ⟨b,off,cap,rfl,hn,?_⟩;rw[Addr.add_lit];have hl:=s6 row (zbj hr);refine .ro row b (off+n*sz) ?_ ?_
  ·intro j hj;have:=hx (n*sz+j) (BD hn (by omega));rw[zco];exact this
  ·intro j c u hc hu;rw[zco] at hu;exact fN n j row c u hr hc hu
theorem QX (hd:∃ Oi,P.underlying t=some Oi/\(∀ fs,Oi≠.struct fs)/\(∀ n e,Oi≠.array n e)) (w:uC):(isAgg t).run P w=.ok false w:=by
 obtain ⟨Oi,h,h1,h2⟩:=hd;simp only[isAgg,Sem.run_bind,run_underlying h,Result.andThen_ok];cases Oi <;> first|rfl|exact absurd rfl (h1 _)|exact absurd rfl (h2 _ _)
def lS:TypeDesc->Bool
 | .struct _|.array _ _=>false
 | _=>true
theorem wU (h:(P.underlying t).map lS=some true) (w:uC):(isAgg t).run P w=.ok false w:=by
 cases hd:P.underlying t with
 | none=>rw[hd] at h;simp at h
 | some Oi =>
  refine QX ⟨Oi,hd,?_,?_⟩ w
  ·intro fs e;subst e;rw[hd] at h;simp [lS] at h
  ·intro n e' e;subst e;rw[hd] at h;simp [lS] at h
theorem Af (h:(P.underlying t).map lS=some false) (w:uC):(isAgg t).run P w=.ok true w:=by
 cases hd:P.underlying t with
 | none=>rw[hd] at h;simp at h
 | some Oi =>
  rw[hd] at h;cases Oi <;> simp [lS] at h <;> simp [isAgg,run_underlying hd]
theorem XV {cs:O D} {c:D} (h1:(P.underlying t).map lS=some true) (hx:df env x=some (.d (.ro (c::cs)))):aJ P env st ⟨d,.load t x,ty,pos,after,gd⟩ (.d c):=λg base w tmps hinv he=>by
 have h:=aR he hx;generalize hv:Act.eval ⟨tmps,[]⟩ x=v at h;cases h with
 | d _ _ h =>
  cases h with
  | ro _ b off lO hc =>
   obtain ⟨hl,u,hu,_⟩:=lO 0 (by simp);have wR:w.cell? ⟨b,off,none⟩=some u:=by simpa using hu
   refine ⟨u,.d _ _ (hc 0 c u rfl hu),λw' hb=>?_⟩;have hu'':w'.cell? ⟨b,off,none⟩=some u:=(hb.cell (World.block_lt_of_cell? w _ wR)).trans wR;simp [execOp,hv,Instr.loadAt,Instr.sureAddr,loadVar,wU h1,hu'']
end q
theorem Inv.grow {g g':b8} {base:Nat} {w w':uC} {st:St} (h:Inv g base w st) (hb:Below w.heap.size w w') (hl:∀ b,b<w.heap.size->g'.lim b=g.lim b) (ho:g'.ob=g.ob) (ht:g'.tk=g.tk) :
  Inv g' base w' st/\Step base g w st g' w' st:=by
 have hs:Step base g w st g' w' st:=by
  refine ⟨⟨⟨hb.size,λb mc=>by rw[hl b mc];exact zaq _,λb off mc _=>hb.cell (p:=⟨b,off,none⟩) mc⟩,λ_ _=>by rw[ho],zaq _,λt e sz n h=>⟨n,h,zaq _,λ_=>by rw[ht]⟩,zaq _,wT λt x' bE _ h _=>⟨h,by rw[ht]⟩⟩,hb.mono h.base,λb mc=>hl b (zbo mc h.base),
   λb mc _=>⟨hb.block b mc,hl b mc⟩,λb _ hw=>by unfold vU at hw ⊢;rw[ho,ht] at hw;exact hw⟩
 have cT:∀ (b:Nat) (x:Obj),w.heap[b]?=some x->b<w.heap.size:=λb x hx=>(zay.1 hx).1
 have Sp:∀ o x,st.aS[o]?=some (.raw x)->base<=g'.ob o/\g'.lim (g'.ob o)=0/\w'.heap[g'.ob o]?=some x:=by
  intro o x hx;obtain ⟨h1,h2,h3⟩:=h.raw o x hx;have mI:=cT _ _ h3;rw[ho];exact ⟨h1,by rw[hl _ mI];exact h2,by rw[hb.block _ mI];exact h3⟩
 refine ⟨⟨zdn h.base hb.size,?_,?_,Sp,?_,?_,?_,?_,h.Fg.below hs.below,?_⟩,hs⟩
 ·intro o ty cs hx;obtain ⟨h1,h2,vs,h3,h4,h5⟩:=h.row o ty cs hx;have mI:=cT _ _ h3;rw[ho];refine ⟨h1,by rw[hl _ mI];exact h2,vs,by rw[hb.block _ mI];exact h3,h4,λi c u hc hu=>⟨(h5 i c u hc hu).1.mono hs.dZ,(h5 i c u hc hu).2⟩⟩
 ·intro o es hx;obtain ⟨h1,ms,clock,h3,h4,h5,h6,h7⟩:=h.map o es hx;have mI:=cT _ _ h3;rw[ho];exact ⟨h1,ms,clock,by rw[hb.block _ mI];exact h3,h4,λi k x m a b=>⟨(h5 i k x m a b).1,(h5 i k x m a b).2.mono hs.dZ⟩,h6,h7⟩
 ·rw[ho];exact h.ne
 ·intro t e sz n hx;obtain ⟨xs,h1,h2⟩:=h.tail t e sz n hx;rw[ht];refine ⟨xs,?_,λb mc=>?_⟩
  ·obtain ⟨k1,k2⟩:=h1;refine ⟨k1,?_⟩;rcases k2 with k2|⟨gb,cap,cur,e1,e2,e3,e4⟩
   ·exact .inl k2
   ·exact .inr ⟨gb,cap,cur,e1,e2,by rw[hb.block _ (cT _ _ e3)];exact e3,e4⟩
  ·rw[hl b (h1.lt b mc).2];exact h2 b mc
 ·rw[ht];exact h.pJ
 ·rw[ht,ho];exact h.jD
 ·intro t e sz n rows hx;obtain ⟨xs,h1,h2,h3⟩:=h.own t e sz n rows hx;rw[ht];exact ⟨xs,fZ h1 λb mc=>hb.block b (h1.lt b mc).2,λb mc=>by rw[hl b (h1.lt b mc).2];exact h2 b mc,h3.mono hs.dZ.df⟩
def vV (g:b8) (w:uC) (st:St) (args:List EV) (vs:uD uB):Prop :=
 vs.size=args.length/\∀ (i:Nat) x v,args[i]?=some x->vs[i]?=some v->bP g w st x v
def aN (P:uG) (f:FuncId) (args:List EV) (st:St) (Q:EV->St->Prop):Prop :=
 ∀ g w base vs,Inv g base w st->vV g w st args vs->Calls P f vs w (pD ⟨g,w,st,base⟩ Q)
def EL (lim:Nat->Nat) (w:uC) (args:List D) (vs:uD uB):Prop :=
 vs.size=args.length/\∀ (i:Nat) x v,args[i]?=some x->vs[i]?=some v->dY lim w x v
def aE (P:uG) (f:FuncId) (args:List D) (q:D->Prop):Prop :=
 ∀ lim w vs,zh w.heap.size w->EL lim w args vs->Calls P f vs w λe w'=>∃ v r dG,e=.returned v/\q r/\dY dG w' r v/\N5 lim w dG w'/\Below w.heap.size w w'/\∀ b,b<w.heap.size->dG b=lim b
theorem aN.mono {P:uG} {f:FuncId} {args:O EV} {st:St} {Q Q':EV->St->Prop} (h:aN P f args st Q) (hq:∀ x s,Q x s->Q' x s):aN P f args st Q' :=
 λg w base vs hi ha=>(h g w base vs hi ha).mono λe w' ⟨v,r,s,g',a,b,c⟩=>⟨v,r,s,g',a,hq r s b,c⟩
def BG:Nat->List EV->Env
 | _,[]=>[]
 | i,x::l=>(i,x)::BG (i+1) l
theorem wq:∀ (l:O EV) (i j:Nat) (y:EV),lookup j (BG i l)=some y->∃ k,j=i+k/\l[k]?=some y
 | [],i,j,y,h=>by simp [BG,lookup] at h
 | x::l,i,j,y,h=>by
  unfold BG lookup at h;cases hb:Nat.beq j i with
  | true =>
   rw[hb] at h;simp only[Option.some.injEq] at h;exact ⟨0,zaw hb,by simp [h]⟩
  | false =>
   rw[hb] at h;obtain ⟨k,h1,h2⟩:=wq l (i+1) j y h;exact ⟨k+1,by omega,by simpa using h2⟩
section enter
variable {P:uG} {f:FuncId} {fn:Func} {c:Code} {N:Nat}
theorem aN.enter {args:O EV} {st:St} {Q:EV->St->Prop} (hf:P.funcs[f]?=some fn) (hb:fn.body=some c) (hN:fn.ntmps=N) (hl:Nat.ble args.length N=true)
  (h:∀ S:Start,S.st=st->bA P (.of f) N S Q [.code c] (BG 0 args) st):aN P f args st Q:=by
 intro g w base vs hi ha;have I5:=zaf hl;have gq:=ha.1;refine e9.calls hf hb ?_;refine h ⟨g,w,st,base⟩ rfl g w _ hi (s5.refl ⟨g,w,st,base⟩) ?_ (by simp [hN];omega);intro j y hy;obtain ⟨k,rfl,hk⟩:=wq args 0 j y hy;have LG:=(zae.1 hk).1;refine ⟨vs[k]'(by omega),?_,ha.2 k y _ hk (by simp [gq,LG])⟩;rw[zbu,zdq (by omega)];simp [gq,LG]
def QD (q:D->Prop) (r:EV) (_:St):Prop:=∃ x,eC r (.d x)/\q x
theorem aE.of {args:O D} {q:D->Prop} (h:aN P f (args.map EV.d) ⟨[],[]⟩ (QD q)):aE P f args q:=by
 intro lim w vs Sq ha;have hinv:Inv ⟨lim,λ_=>0,λ_=>.nilFunc⟩ w.heap.size w ⟨[],[]⟩ :=
  ⟨zaq _,λo ty cs h=>by simp at h,λo es h=>by simp at h,λo x h=>by simp at h,λo o' _ ⟨x,h,_⟩=>by simp at h,λt e sz n h=>by simp at h,λt t' x x' b _ h=>by simp at h,λt x o h=>by simp at h,Sq,λt e sz n rows h=>by simp at h⟩
 refine (h _ w w.heap.size vs hinv ⟨by simpa using ha.1,λi x v hx hv=>?_⟩).mono ?_
 ·rw[zbe] at hx;cases hy:args[i]? with
  | none=>rw[hy] at hx;simp at hx
  | some y =>
   rw[hy] at hx;simp only[Option.map_some,Option.some.injEq] at hx;subst hx;exact .d _ _ (ha.2 i y v hy hv)
 ·rintro e w' ⟨v,r,st',g',rfl,⟨x,hle,hq⟩,hr,hi',hh⟩;cases hle _ _ _ _ hr with
  | d _ _ hd=>exact ⟨v,x,g'.lim,rfl,hq,hd,hh.dZ.df,hh.below,hh.lim⟩
end enter
def DJ (env:Env):List uH->Option (List EV)
 | []=>some []
 | x::l=>match df env x,DJ env l with
  | some e,some r=>some (e::r)
  | _,_=>none
theorem wV {g:b8} {w:uC} {st:St} {env:Env} {tmps:uD uB} (h:eB g w st env tmps):∀ (l:O uH) (es:O EV),DJ env l=some es ->
  l.length=es.length/\∀ (i:Nat) e v,es[i]?=some e->(l.map (Act.eval ⟨tmps,[]⟩))[i]?=some v->bP g w st e v
 | [],es,hx=>by simp [DJ] at hx;subst hx;simp
 | x::l,es,hx=>by
  unfold DJ at hx;split at hx
  ·rename_i e r h1 h2;simp only[Option.some.injEq] at hx;subst hx;obtain ⟨k1,k2⟩:=wV h l r h2;refine ⟨by simp [k1],λi e' v he hv=>?_⟩;cases i with
   | zero =>
    simp at he hv;subst he;subst hv;exact aR h h1
   | succ i=>exact k2 i e' v (by simpa using he) (by simpa using hv)
  ·cases hx
def toD:EV->Option D
 | .d x=>some x
 | .cm sz rows _=>some (.sl sz rows)
 | _=>none
theorem XW {e:EV} {x:D} (h:toD e=some x):eC e (.d x):=by
 cases e <;> simp [toD] at h
 ·subst h;exact .ak _
 ·subst h;exact .cm _ _ _
def Oj:List EV->Option (List D)
 | []=>some []
 | e::l=>match toD e,Oj l with
  | some x,some r=>some (x::r)
  | _,_=>none
theorem LH:∀ (es:O EV) (ds:O D),Oj es=some ds->es.length=ds.length/\∀ (i:Nat) d,ds[i]?=some d->∃ e,es[i]?=some e/\eC e (.d d)
 | [],ds,h=>by simp [Oj] at h;subst h;simp
 | e::l,ds,h=>by
  unfold Oj at h;split at h
  ·rename_i x r h1 h2;simp only[Option.some.injEq] at h;subst h;obtain ⟨k1,k2⟩:=LH l r h2;refine ⟨by simp [k1],λi d hd=>?_⟩;cases i with
   | zero=>simp at hd;subst hd;exact ⟨e,rfl,XW h1⟩
   | succ i=>simpa using k2 i d (by simpa using hd)
  ·cases h
section call
variable {P:uG} {f:Ctx} {N:Nat} {S:Start} {Q:EV->St->Prop} {k:List Item} {env:Env} {st:St} {ops rest:List Oper}
 {d:Option Tmp} {ty:uE} {pos:String} {after:uD Edge}
def Enters (P:uG) (f:FuncId):Prop:=∃ fn,P.funcs[f]?=some fn/\(fn.name == "runtime.NumGoroutine")=false/\fn.body.isNone=false
theorem xI {f':FuncId} (h:Enters P f') (args:uD uB) (w:uC):(callFunc f' args).run P w=.ok (.enter f' args) w:=by
 obtain ⟨fn,h1,h2,h3⟩:=h;have EM:fn.name ≠ "runtime.NumGoroutine" := by simpa using h2
 have h3':fn.body≠none:=by intro e;rw[e] at h3;cases h3
 simp [callFunc,h1,EM,h3']
theorem DK {f':FuncId} {l:O uH} {ts:uD uE} {ρ:uH->uB} (h:Enters P f') (w:uC) (hf:ρ (.func f')=.func (.func f') #[] #[]) {gd:J (Nat×Bool)} :
  (execOp ρ ⟨d,.call ⟨.value (.func f'),l.toArray,ts⟩,ty,pos,after,gd⟩).run P w=.ok (.enter f' (l.map ρ).toArray) w:=by
 simp [execOp,resolve,hf,Deferred.ofValue,invoke,xI h]
theorem I6 {f':FuncId} {l:O uH} {ts:uD uE} {ρ:uH->uB} {x:uH} {vs:uD uB} (h:Enters P f') (w:uC) (hf:ρ x=.func (.func f') #[] vs) {gd:J (Nat×Bool)} :
  (execOp ρ ⟨d,.call ⟨.value x,l.toArray,ts⟩,ty,pos,after,gd⟩).run P w=.ok (.enter f' ((l.map ρ).toArray++vs)) w:=by
 simp [execOp,resolve,hf,Deferred.ofValue,invoke,xI h]
theorem EL.of {g:b8} {w:uC} {tmps:uD uB} {l:O uH} {es:O EV} {ds:O D} (he:eB g w st env tmps) (h1:DJ env l=some es) (h2:Oj es=some ds) :
  EL g.lim w ds (l.map (Act.eval ⟨tmps,[]⟩)).toArray:=by
 obtain ⟨k1,k2⟩:=wV he l es h1;obtain ⟨m1,m2⟩:=LH es ds h2;refine ⟨by simp [k1,m1],λi x v hx hv=>?_⟩;obtain ⟨e,Ck,hle⟩:=m2 i x hx;cases hle _ _ _ _ (k2 i e v Ck (by simpa using hv)) with
 | d _ _ h=>exact h
theorem cr.callS {f':FuncId} {l:O uH} {ts:uD uE} {es:O EV} {q:EV->St->Prop} (Fi:Enters P f') (hd:hZ N d=true) (h1:DJ env l=some es)
  (hc:aN P f' es st q) (hk:∀ x st',q x st'->cr P f N S Q ops rest k (env.put d x) st') :
  cr P f N S Q ops (⟨d,.call ⟨.value (.func f'),l.toArray,ts⟩,ty,pos,after,none⟩::rest) k env st:=by
 intro i hi g w tmps hinv hh he hn;have ho:ops.toArray[i]?=some ⟨d,.call ⟨.value (.func f'),l.toArray,ts⟩,ty,pos,after,none⟩:=by simpa using (hi 0).symm
 rw[zad,jE];refine e9.call ho (by simp [Region.wanted]) (DK Fi w rfl) ?_;obtain ⟨k1,k2⟩:=wV he l es h1;refine (hc g w S.base _ hinv ⟨by simp [k1],λj x v hx hv=>k2 j x v hx (by simpa using hv)⟩).mono ?_;rintro e w' ⟨v,r,st',g',rfl,hq,hr,eF,Ol⟩;have hs:Step S.base g w st g' w' st':=Ol.toStep;subst hn;exact ⟨v,rfl,hk r st' hq (i+1) (λj=>by have:=hi (j+1);simpa [zco,zdo 1 j] using this) g' w' _ eF (hh.step hs) (rZ (he.mono hs.dZ) hd hr) js⟩
theorem cr.yH {f':FuncId} {l:O uH} {ts:uD uE} {es cs:O EV} {x:uH} {q:EV->St->Prop} (Fi:Enters P f') (hd:hZ N d=true) (hx:df env x=some (.u0 f' cs)) (h1:DJ env l=some es)
  (hc:aN P f' (es++cs) st q) (hk:∀ x st',q x st'->cr P f N S Q ops rest k (env.put d x) st') :
  cr P f N S Q ops (⟨d,.call ⟨.value x,l.toArray,ts⟩,ty,pos,after,none⟩::rest) k env st:=by
 intro i hi g w tmps hinv hh he hn;have ho:ops.toArray[i]?=some ⟨d,.call ⟨.value x,l.toArray,ts⟩,ty,pos,after,none⟩:=by simpa using (hi 0).symm
 rw[zad,jE];have hfx:=aR he hx;generalize JV:Act.eval ⟨tmps,[]⟩ x=val at hfx;cases hfx with
 | u0 _ _ vs Fj s7 =>
 refine e9.call ho (by simp [Region.wanted]) (I6 Fi w JV) ?_;obtain ⟨k1,k2⟩:=wV he l es h1;have harg:vV g w st (es++cs) ((l.map (Act.eval ⟨tmps,[]⟩)).toArray++vs):=by
  refine ⟨by simp [k1,Fj],λj y v hy hv=>?_⟩;by_cases hj:j<es.length
  ·rw[zap hj] at hy;rw[zdq (by simpa [k1] using hj)] at hv;exact k2 j y v hy (by simpa using hv)
  ·rw[zax (by omega)] at hy;rw[Array.getElem?_append_right (by simp [k1];omega)] at hv;exact s7 (j-es.length) y v hy (by simpa [k1] using hv)
 refine (hc g w S.base _ hinv harg).mono ?_;rintro e w' ⟨v,r,st',g',rfl,hq,hr,eF,Ol⟩;have hs:Step S.base g w st g' w' st':=Ol.toStep;subst hn;exact ⟨v,rfl,hk r st' hq (i+1) (λj=>by have:=hi (j+1);simpa [zco,zdo 1 j] using this) g' w' _ eF (hh.step hs) (rZ (he.mono hs.dZ) hd hr) js⟩
end call
def St.set (st:St) (o:Nat) (x:dU):St:=⟨st.aS.set o x,st.av⟩
def St.add (st:St) (x:dU):St:=⟨st.aS++[x],st.av⟩
def St.tok (st:St) (x:iR):St:=⟨st.aS,st.av++[x]⟩
def St.bG (st:St) (t:Nat) (x:iR):St:=⟨st.aS,st.av.set t x⟩
theorem Il {lim dG:Nat->Nat} {w w':uC} (hs:w.heap.size<=w'.heap.size) (h:∀ b,b<w.heap.size->lim b<=dG b/\(lim b=0∨w'.heap[b]?=w.heap[b]?)):N5 lim w dG w' :=
 ⟨hs,λb hb=>(h b hb).1,λb off hb ho=>by
  rcases (h b hb).2 with h2|h2
  ·omega
  ·exact World.cell?_of_block (w:=w) (a:=⟨b,off,none⟩) h2⟩
section inv
variable {g:b8} {base:Nat} {w:uC} {st:St}
theorem Inv.xJ (h:Inv g base w st) {o:Nat} (hl:st.live o):g.ob o<w.heap.size/\base<=g.ob o:=by
 obtain ⟨x,hx,fK⟩:=hl;cases x with
 | row ty cs =>
  obtain ⟨h1,h2,vs,h3,_⟩:=h.row o ty cs hx;exact ⟨(zay.1 h3).1,h1⟩
 | map es =>
  obtain ⟨h1,ms,c,h3,_⟩:=h.map o es hx;exact ⟨(zay.1 h3).1,h1⟩
 | raw y =>
  obtain ⟨h1,_,h3⟩:=h.raw o y hx;exact ⟨(zay.1 h3).1,h1⟩
 | gone=>exact absurd rfl fK
theorem s8 {st:St} {o o':Nat} {x:dU} (ho:st.live o) (h:(st.set o x).live o'):st.live o':=by
 obtain ⟨y,hy,fK⟩:=h;simp only[St.set,zbm] at hy;split at hy
 ·rename_i e;subst e;exact ho
 ·exact ⟨y,hy,fK⟩
theorem Inv.setBlock (h:Inv g base w st) {o:Nat} (hl:st.live o) {w':uC} {x:dU} (BI:g.lim (g.ob o)=0) (gq:w'.heap.size=w.heap.size) (vO:∀ b,b≠g.ob o->w'.heap[b]?=w.heap[b]?)
  (Pz:w'.os=w.os) (htp:w'.tape=w.tape) (XX:w'.output=w.output)
  (s6:wo g w st g w' (st.set o x)->∀ ty cs,x=.row ty cs->∃ vs:uD uB,w'.heap[g.ob o]?=some (.cells vs ty (0,0))/\vs.size=cs.length/\∀ (i:Nat) c u,cs[i]?=some c->vs[i]?=some u->bP g w' (st.set o x) c u/\u.oneCell'=true)
  (Sr:wo g w st g w' (st.set o x)->∀ es,x=.map es->∃ (ms:uD MapEntry) (clock:Nat),w'.heap[g.ob o]?=some (.map ms clock)/\ms.size=es.length /\
   (∀ (i:Nat) k y (m:MapEntry),es[i]?=some (k,y)->ms[i]?=some m->m.key=k/\bP g w' (st.set o x) y m.val) /\
   (∀ (i:Nat) (m:MapEntry),ms[i]?=some m->m.born<clock) /\
   (∀ (i j:Nat) (m m':MapEntry),ms[i]?=some m->ms[j]?=some m'->m.born=m'.born->i=j))
  (Sp:∀ y,x=.raw y->w'.heap[g.ob o]?=some y:=by (intro y hy;cases hy)) :
  Inv g base w' (st.set o x)/\Step base g w st g w' (st.set o x):=by
 obtain ⟨cT,mf⟩:=h.xJ hl;have pb:Below base w w':=⟨Pz,htp,XX,by omega,λk hk=>vO k (by omega)⟩;have hs:wo g w st g w' (st.set o x):=by
  refine ⟨Il (by omega) (λb hb=>⟨zaq _,?_⟩),λ_ _=>rfl,by simp [St.set],λt e sz n ht=>⟨n,ht,zaq _,λ_=>rfl⟩,zaq _,wT λ_ _ _ _ h _=>⟨h,rfl⟩⟩;by_cases mc:b=g.ob o
  ·subst mc;exact .inl BI
  ·exact .inr (vO b mc)
 have XY:o<st.aS.length:=by obtain ⟨y,hy,_⟩:=hl;exact (zae.1 hy).1
 have jk:∀ o' y,o'≠o->(st.set o x).aS[o']?=some y->st.aS[o']?=some y:=by
  intro o' y fK hy;simpa [St.set,zbm,zcl fK] using hy
 have U5:∀ o' y,(st.set o x).aS[o']?=some (.raw y)->base<=g.ob o'/\g.lim (g.ob o')=0/\w'.heap[g.ob o']?=some y:=by
  intro o' y hx;by_cases ho:o'=o
  ·subst ho;have lO:x=.raw y:=by simpa [St.set,zbm,XY] using hx
   exact ⟨mf,BI,Sp y lO⟩
  ·have hy:=jk o' _ ho hx;obtain ⟨h1,h2,h3⟩:=h.raw o' y hy;have fK:=h.ne o' o ho ⟨_,hy,by simp⟩ hl;exact ⟨h1,h2,by rw[vO _ fK];exact h3⟩
 refine ⟨⟨by rw[gq];exact h.base,?_,?_,U5,?_,?_,?_,?_,h.Fg.below pb,?_⟩,⟨hs,pb,λ_ _=>rfl,λb _ hn=>⟨vO b (λe=>hn (.inl ⟨o,hl,e.symm⟩)),rfl⟩,λb _ hw=>by
  rcases hw with ⟨o',h1,h2⟩|h1
  ·exact .inl ⟨o',s8 hl h1,h2⟩
  ·exact .inr h1⟩⟩
 ·intro o' ty cs hx;by_cases ho:o'=o
  ·subst ho;have lO:x=.row ty cs:=by simpa [St.set,zbm,XY] using hx
   obtain ⟨vs,h1,h2,h3⟩:=s6 hs ty cs lO;exact ⟨mf,BI,vs,h1,h2,h3⟩
  ·have hy:=jk o' _ ho hx;obtain ⟨h1,h2,vs,h3,h4,h5⟩:=h.row o' ty cs hy;have fK:=h.ne o' o ho ⟨_,hy,by simp⟩ hl;exact ⟨h1,h2,vs,by rw[vO _ fK];exact h3,h4,λi c u hc hu=>⟨(h5 i c u hc hu).1.mono hs,(h5 i c u hc hu).2⟩⟩
 ·intro o' es hx;by_cases ho:o'=o
  ·subst ho;have lO:x=.map es:=by simpa [St.set,zbm,XY] using hx
   obtain ⟨ms,c,h1,h2,h3⟩:=Sr hs es lO;exact ⟨mf,ms,c,h1,h2,h3⟩
  ·have hy:=jk o' _ ho hx;obtain ⟨h1,ms,c,h3,h4,h5,h6⟩:=h.map o' es hy;have fK:=h.ne o' o ho ⟨_,hy,by simp⟩ hl;exact ⟨h1,ms,c,by rw[vO _ fK];exact h3,h4,λi k y m a b=>⟨(h5 i k y m a b).1,(h5 i k y m a b).2.mono hs⟩,h6⟩
 ·exact λo1 o2 fK h1 h2=>h.ne o1 o2 fK (s8 hl h1) (s8 hl h2)
 ·intro t e sz n ht;obtain ⟨xs,h1,h2⟩:=h.tail t e sz n ht;refine ⟨xs,?_,h2⟩;obtain ⟨k1,k2⟩:=h1;refine ⟨k1,?_⟩;rcases k2 with k2|⟨gb,cap,cur,e1,e2,e3,e4⟩
  ·exact .inl k2
  ·refine .inr ⟨gb,cap,cur,e1,e2,?_,e4⟩;rw[vO gb ?_]
   ·exact e3
   ·intro hgb;subst hgb;exact h.jD t _ o ht hl (by rw[e1];rfl)
 ·exact h.pJ
 ·exact λt x' o' ht I5=>h.jD t x' o' ht (s8 hl I5)
 ·intro t e sz n rows ht;obtain ⟨xs,h1,h2,h3⟩:=h.own t e sz n rows ht;exact ⟨xs,fZ h1 λb mc=>vO b λhgb=>h.jD t _ o ht hl (by rw[mc,hgb]),h2,h3.mono hs.df⟩
theorem Inv.newObj (h:Inv g base w st) (x:dU) (b:Obj)
  (s6:∀ ty cs,x=.row ty cs->∃ vs:uD uB,b=.cells vs ty (0,0)/\vs.size=cs.length/\∀ (i:Nat) c u,cs[i]?=some c->vs[i]?=some u->bP g w st c u/\u.oneCell'=true)
  (Sr:∀ es,x=.map es->es=[]/\b=.map #[] 0)
  (Sp:∀ y,x=.raw y->b=y:=by (intro y hy;cases hy)) :
  ∃ g',Inv g' base (w.alloc b) (st.add x)/\Step base g w st g' (w.alloc b) (st.add x)/\g'.ob st.aS.length=w.heap.size:=by
 let g':b8:=⟨λk=>if k=w.heap.size then 0 else g.lim k,λo=>if o=st.aS.length then w.heap.size else g.ob o,g.tk⟩
 have pb:Below w.heap.size w (w.alloc b):=(Below.refl _ w).alloc (zaq _) b;have BJ:∀ k,k<w.heap.size->g'.lim k=g.lim k:=λk hk=>by show (if k=w.heap.size then 0 else g.lim k)=_;rw[zaa (by omega)]
 have A8:∀ o,o<st.aS.length->g'.ob o=g.ob o:=λo ho=>by show (if o=st.aS.length then _ else g.ob o)=_;rw[zaa (by omega)]
 have zk:g'.ob st.aS.length=w.heap.size:=by show (if _=st.aS.length then _ else _)=_;rw[zab rfl]
 have hs:wo g w st g' (w.alloc b) (st.add x):=by
  refine ⟨⟨by simp,λk hk=>by rw[BJ k hk];exact zaq _,λk off hk _=>pb.cell (p:=⟨k,off,none⟩) hk⟩,A8,by simp [St.add],λt e sz n ht=>⟨n,ht,zaq _,λ_=>rfl⟩,zaq _,wT λ_ _ _ _ h _=>⟨h,rfl⟩⟩
 have hold:∀ o y,o<st.aS.length->(st.add x).aS[o]?=some y->st.aS[o]?=some y:=by
  intro o y ho hy;simpa [St.add,zap ho] using hy
 have u4:∀ o y,(st.add x).aS[o]?=some y->¬ o<st.aS.length->o=st.aS.length/\y=x:=by
  intro o y hy ho;have cT:=(zae.1 hy).1;simp [St.add] at cT;have:o=st.aS.length:=by omega
  subst this;simpa [St.add,zfb] using hy
 have wW:∀ o,o<st.aS.length->(st.add x).live o->st.live o:=λo ho ⟨y,hy,fK⟩=>⟨y,hold o y ho hy,fK⟩
 have LI:(w.alloc b).heap[w.heap.size]?=some b:=heap_alloc_new w b;have U5:∀ o y,(st.add x).aS[o]?=some (.raw y)->base<=g'.ob o/\g'.lim (g'.ob o)=0/\(w.alloc b).heap[g'.ob o]?=some y:=by
  intro o y hx;by_cases ho:o<st.aS.length
  ·obtain ⟨h1,h2,h3⟩:=h.raw o y (hold o _ ho hx);have cT:=(zay.1 h3).1;rw[A8 o ho,BJ _ cT,pb.block _ cT];exact ⟨h1,h2,h3⟩
  ·obtain ⟨rfl,hxx⟩:=u4 o _ hx ho;rw[zk];exact ⟨h.base,by show (if w.heap.size=w.heap.size then 0 else _)=0;rw[zab rfl],by rw[LI,Sp y hxx.symm]⟩
 refine ⟨g',⟨⟨by have:=h.base;simp;omega,?_,?_,U5,?_,?_,?_,?_,h.Fg.below (pb.mono h.base),?_⟩,⟨hs,pb.mono h.base,λk hk=>BJ k (zbo hk h.base),λk hk _=>⟨pb.block k hk,BJ k hk⟩,λk hk hw=>by
  rcases hw with ⟨o,h1,h2⟩|h1
  ·by_cases ho:o<st.aS.length
   ·exact .inl ⟨o,wW o ho h1,by rw[←A8 o ho];exact h2⟩
   ·obtain ⟨y,hy,_⟩:=h1;obtain ⟨rfl,_⟩:=u4 o _ hy ho;rw[zk] at h2;omega
  ·exact .inr h1⟩,zk⟩⟩
 ·intro o ty cs hx;by_cases ho:o<st.aS.length
  ·obtain ⟨h1,h2,vs,h3,h4,h5⟩:=h.row o ty cs (hold o _ ho hx);have cT:=(zay.1 h3).1;rw[A8 o ho,BJ _ cT,pb.block _ cT];exact ⟨h1,h2,vs,h3,h4,λi c u hc hu=>⟨(h5 i c u hc hu).1.mono hs,(h5 i c u hc hu).2⟩⟩
  ·obtain ⟨rfl,hxx⟩:=u4 o _ hx ho;obtain ⟨vs,h1,h2,h3⟩:=s6 ty cs hxx.symm;rw[zk];refine ⟨h.base,by show (if w.heap.size=w.heap.size then 0 else _)=0;rw[zab rfl],vs,by rw[LI,h1],h2,λi c u hc hu=>⟨(h3 i c u hc hu).1.mono hs,(h3 i c u hc hu).2⟩⟩
 ·intro o es hx;by_cases ho:o<st.aS.length
  ·obtain ⟨h1,ms,c,h3,h4,h5,h6⟩:=h.map o es (hold o _ ho hx);have cT:=(zay.1 h3).1;rw[A8 o ho,pb.block _ cT];exact ⟨h1,ms,c,h3,h4,λi k y m a b=>⟨(h5 i k y m a b).1,(h5 i k y m a b).2.mono hs⟩,h6⟩
  ·obtain ⟨rfl,hxx⟩:=u4 o _ hx ho;obtain ⟨rfl,h2⟩:=Sr es hxx.symm;rw[zk];exact ⟨h.base,#[],0,by rw[LI,h2],rfl,λi k y m a _=>by simp at a,λi m a=>by simp at a,λi j m m' a=>by simp at a⟩
 ·intro o1 o2 fK h1 h2;by_cases Ie:o1<st.aS.length <;> by_cases QY:o2<st.aS.length
  ·rw[A8 o1 Ie,A8 o2 QY];exact h.ne o1 o2 fK (wW o1 Ie h1) (wW o2 QY h2)
  ·obtain ⟨y,hy,_⟩:=h2;obtain ⟨rfl,_⟩:=u4 o2 _ hy QY;rw[A8 o1 Ie,zk];have:=(h.xJ (wW o1 Ie h1)).1;omega
  ·obtain ⟨y,hy,_⟩:=h1;obtain ⟨rfl,_⟩:=u4 o1 _ hy Ie;rw[A8 o2 QY,zk];have:=(h.xJ (wW o2 QY h2)).1;omega
  ·obtain ⟨y,hy,_⟩:=h1;obtain ⟨y',Lr,_⟩:=h2;exact absurd ((u4 o1 _ hy Ie).1.trans (u4 o2 _ Lr QY).1.symm) fK
 ·intro t e sz n ht;obtain ⟨xs,h1,h2⟩:=h.tail t e sz n ht;exact ⟨xs,h1.alloc b,λk hk=>by rw[BJ k (h1.lt k hk).2];exact h2 k hk⟩
 ·exact h.pJ
 ·intro t x' o ht hl;by_cases ho:o<st.aS.length
  ·rw[A8 o ho];exact h.jD t x' o ht (wW o ho hl)
  ·obtain ⟨y,hy,_⟩:=hl;obtain ⟨rfl,_⟩:=u4 o _ hy ho;rw[zk];intro hk;have:=(h.xH ht hk).2;omega
 ·intro t e sz n rows ht;obtain ⟨xs,h1,h2,h3⟩:=h.own t e sz n rows ht;exact ⟨xs,h1.alloc b,λk hk=>by rw[BJ k (h1.lt k hk).2];exact h2 k hk,h3.mono hs.df⟩
end inv
def fQ (P:uG) (s:uE) (f:Nat):Option Nat :=
 match P.underlying s with
 | some (.struct fs)=>match fs[f]? with
  | some fl=>match P.info? fl.type with
   | some i=>if i.size=0 then none else some fl.offset
   | none=>none
  | none=>none
 | _=>none
theorem u5 {P:uG} {s:uE} {f off:Nat} (h:fQ P s f=some off) (a:Addr) (w:uC):(Instr.fieldAt s (.pointer (some a)) f).run P w=.ok (.pointer (some (a.add off))) w:=by
 unfold fQ at h;split at h
 ·rename_i fs hu;split at h
  ·rename_i fl hf;split at h
   ·rename_i i hi;split at h
    ·cases h
    ·rename_i gq;simp only[Option.some.injEq] at h;subst h;simp [Instr.fieldAt,run_underlying hu,hf,Instr.sureAddr,fieldPlace,sizeOf,typeInfo,hi,gq]
   ·cases h
  ·cases h
 ·cases h
def QZ:List EV->Option (List D)
 | []=>some []
 | .d x::l=>match QZ l with
  | some r=>some (x::r)
  | none=>none
 | _::_=>none
theorem LJ:∀ {l:O EV} {ds:O D},QZ l=some ds->l=ds.map EV.d
 | [],ds,h=>by simp [QZ] at h;subst h;rfl
 | .d x::l,ds,h=>by
  unfold QZ at h;split at h
  ·rename_i r hr;simp only[Option.some.injEq] at h;subst h;rw[LJ hr];rfl
  ·cases h
 | .ref _ _::l,ds,h=>by cases h
 | .Lq _ _ _ _::l,ds,h=>by cases h
 | .cm _ _ _::l,ds,h=>by cases h
 | .mp _::l,ds,h=>by cases h
 | .u0 _ _::l,ds,h=>by cases h
 | .agg _::l,ds,h=>by cases h
 | .dN _::l,ds,h=>by cases h
 | .gd _ _::l,ds,h=>by cases h
def Gm:EV->Bool->Option Bool
 | .d (.ex (.bool b)),true=>some b
 | .d (.ex (.bool b)),false=>some (!b)
 | .gd c (.d (.ex (.bool b))),true=>some (c && b)
 | .gd c (.d (.ex (.bool b))),false=>some (c && !b)
 | _,_=>none
def XZ:uB->Option Bool
 | .bool c=>some c
 | _=>none
theorem uQ {g:b8} {w:uC} {st:St} {e:EV} {want b:Bool} {v:uB} (h:Gm e want=some b) (hv:bP g w st e v):(XZ v==some want)=b:=by
 unfold Gm at h;split at h
 ·cases h;rw[hv.bO];cases b <;> rfl
 ·rename_i c;cases h;rw[hv.bO];cases c <;> rfl
 ·rename_i c c';cases h;cases hv with
  | gd _ _ _ h0 h1 =>
   cases c with
   | false=>rw[h0 rfl];rfl
   | true=>rw[(h1 rfl).bO];cases c' <;> rfl
 ·rename_i c c';cases h;cases hv with
  | gd _ _ _ h0 h1 =>
   cases c with
   | false=>rw[h0 rfl];rfl
   | true=>rw[(h1 rfl).bO];cases c' <;> rfl
 ·cases h
def Cr (b:Bool) (env:Env):Env->Prop
 | []=>True
 | (i,y)::t=>(lookup i env=some y∨lookup i env=some (.gd b y)∨∃ a z,y=.gd a z/\lookup i env=some (.gd (b && a) z))/\Cr b env t
theorem Cr.get {b:Bool} {env:Env}:∀ {env':Env},Cr b env env'->∀ i y,lookup i env'=some y->lookup i env=some y∨lookup i env=some (.gd b y)∨∃ a z,y=.gd a z/\lookup i env=some (.gd (b && a) z)
 | [],_,i,y,h=>by simp [lookup] at h
 | (j,z)::t,⟨hh,ht⟩,i,y,h=>by
  unfold lookup at h;cases hb:Nat.beq i j with
  | true =>
   rw[hb] at h;simp only[Option.some.injEq] at h;have:=zaw hb;subst this;subst h;exact hh
  | false =>
   rw[hb] at h;exact ht.get i y h
theorem eB.gd {g:b8} {w:uC} {st:St} {env env':Env} {tmps:uD uB} {b:Bool} (h:eB g w st env tmps) (hg:Cr b env env') (hb:b=true):eB g w st env' tmps:=by
 intro i y hy;rcases hg.get i y hy with h1|h1|⟨a,z,rfl,h1⟩
 ·exact h i y h1
 ·obtain ⟨v,h2,h3⟩:=h i _ h1;cases h3 with
  | gd _ _ _ _ h4=>exact ⟨v,h2,h4 hb⟩
 ·obtain ⟨v,h2,h3⟩:=h i _ h1;rw[hb,zcu] at h3;exact ⟨v,h2,h3⟩
section guard
variable {P:uG} {f:Ctx} {N:Nat} {S:Start} {Q:EV->St->Prop} {k:List Item} {env:Env} {st:St} {ops rest:List Oper}
theorem cr.guard {d t:Tmp} {op:Op} {ty:uE} {pos:String} {after:uD Edge} {j:Nat} {want b:Bool} {c x:EV} {env':Env} (hj:(ops[j]?).bind (·.dst)=some t) (hl:lookup t env=some c) (hc:Gm c want=some b)
  (hE:Cr b env env') (hd:hZ N (some d)=true) (h:b=true->aJ P env' st ⟨some d,op,ty,pos,after,some (j,want)⟩ x) (hk:cr P f N S Q ops rest k ((d,.gd b x)::env) st) :
  cr P f N S Q ops (⟨some d,op,ty,pos,after,some (j,want)⟩::rest) k env st:=by
 intro i hi g w tmps hinv hh he hn;have ho:ops.toArray[i]?=some ⟨some d,op,ty,pos,after,some (j,want)⟩:=by simpa using (hi 0).symm
 obtain ⟨v,hv,hr⟩:=he t c hl;have hw:Region.wanted ⟨some d,op,ty,pos,after,some (j,want)⟩ (yielded ops.toArray tmps)=b:=by
  rw[←uQ hc hr];have Ls:((ops.toArray)[j]?).bind (·.dst)=some t:=by simpa using hj
  simp only[Region.wanted,yielded,Ls,zac,hv];cases v <;> rfl
 rw[zad,jE];subst hn;have hi':∀ j:Nat,rest[j]?=ops[i+1+j]?:=λj=>by have:=hi (j+1);simpa [zco,zdo 1 j] using this
 cases b with
 | false=>exact e9.zi ho hw (hk (i+1) hi' g w _ hinv hh (rZ (d:=some d) he hd (.gd _ _ _ (λ_=>rfl) (λh=>by cases h))) js)
 | true =>
  obtain ⟨u,h1,h2⟩:=h rfl g S.base w tmps hinv (he.gd hE rfl);exact e9.value ho hw (h2 w (.refl _ _)) (hk (i+1) hi' g w _ hinv hh (rZ (d:=some d) he hd (.gd _ _ _ (λh=>by cases h) (λ_=>h1))) js)
theorem cr.q {d:J Tmp} {op:Op} {ty:uE} {pos:String} {after:uD Edge} {x:EV} (h:aJ P env st ⟨d,op,ty,pos,after,none⟩ x) (hd:hZ N d=true) (hk:cr P f N S Q ops rest k (env.put d x) st) :
  cr P f N S Q ops (⟨d,op,ty,pos,after,none⟩::rest) k env st:=.op rfl hd h.v hk
theorem cr.v {d:J Tmp} {op:Op} {ty:uE} {pos:String} {after:uD Edge} {x:EV} {st':St} (h:zj P S.base env st ⟨d,op,ty,pos,after,none⟩ x st') (hd:hZ N d=true) (hk:cr P f N S Q ops rest k (env.put d x) st') :
  cr P f N S Q ops (⟨d,op,ty,pos,after,none⟩::rest) k env st:=.op rfl hd h hk
theorem cr.u {d:J Tmp} {op:Op} {ty:uE} {pos:String} {after:uD Edge} {st':St} (h:JT P S.base env st ⟨d,op,ty,pos,after,none⟩ st') (hd:hZ N d=true) (hk:cr P f N S Q ops rest k (env.put d (.d .any)) st') :
  cr P f N S Q ops (⟨d,op,ty,pos,after,none⟩::rest) k env st:=.opU rfl hd h hk
theorem cr.sub {env':Env} (hs:dz env env') (h:cr P f N S Q ops rest k env' st):cr P f N S Q ops rest k env st:=λi hi=>.sub hs (h i hi)
end guard
section q
variable {P:uG} {env:Env} {st:St} {d:Option Tmp} {ty:uE} {pos:String} {after:uD Edge} {gd:Option (Nat×Bool)} {t t2:uE} {x y:uH}
theorem Vl {lim:Nat->Nat} {w:uC} {cs:O D} {b off n:Nat} (h:dY lim w (.ro cs) (.pointer (some ⟨b,off,none⟩))):dY lim w (.ro (cs.drop n)) (.pointer (some (Addr.add ⟨b,off,none⟩ n))):=by
 rw[Addr.add_lit];cases h with
 | ro _ _ _ hx hc =>
  refine .ro _ b (off+n) ?_ ?_
  ·intro k hk;simp only[zbh] at hk;have:=hx (n+k) (by omega);rw[zco];exact this
  ·intro j c u tH hu;rw[zbd] at tH;rw[zco] at hu;exact hc (n+j) c u tH hu
theorem PA {lim:Nat->Nat} {w:uC} {cs:O D} {v:uB} (h:dY lim w (.ro cs) v):∃ b off,v=.pointer (some ⟨b,off,none⟩):=by
 cases h with|ro _ b off=>exact ⟨b,off,rfl⟩
theorem Q0 {s:uE} {f off:Nat} {cs:O D} (hf:fQ P s f=some off) (hx:df env x=some (.d (.ro cs))):aJ P env st ⟨d,.fieldAddr s x f,ty,pos,after,gd⟩ (.d (.ro (cs.drop off))):=λg base w tmps hi he=>by
 cases aR he hx with
 | d _ _ h =>
  obtain ⟨b,o,hv⟩:=PA h;rw[hv] at h;exact ⟨_,.d _ _ (Vl h),λw' _=>by simp [execOp,hv,u5 hf]⟩
theorem bn {s:uE} {f off o X0:Nat} (hf:fQ P s f=some off) (hx:df env x=some (.ref o X0)):aJ P env st ⟨d,.fieldAddr s x f,ty,pos,after,gd⟩ (.ref o (X0+off)):=λg base w tmps hi he=>by
 have h:=aR he hx;generalize hv:Act.eval ⟨tmps,[]⟩ x=v at h;cases h with
 | ref _ _ cT=>exact ⟨.pointer (some ⟨g.ob o,X0+off,none⟩),.ref _ _ cT,λw' _=>by simp [execOp,hv,u5 hf,Addr.add_lit]⟩
theorem sL {w:uC} {b off n:Nat} {vs:O uB} (hl:vs.length=n) (h:∀ j u,vs[j]?=some u->w.cell? ⟨b,off+j,none⟩=some u):(loadCells ⟨b,off,none⟩ n).run P w=.ok vs.toArray w:=by
 subst hl;exact run_loadCells_list w _ vs λj u hu=>by rw[Addr.add_lit];exact h j u hu
theorem Vm {lim:Nat->Nat} {w:uC} {cs:O D} {b off:Nat} (h:dY lim w (.ro cs) (.pointer (some ⟨b,off,none⟩))) (n:Nat) (hn:n<=cs.length) :
  ∃ vs:O uB,vs.length=n/\(∀ (j:Nat) u,vs[j]?=some u->w.cell? ⟨b,off+j,none⟩=some u/\u.oneCell'=true/\∀ c,cs[j]?=some c->dY lim w c u):=by
 cases h with
 | ro _ _ _ hx hc =>
  refine ⟨(List.range n).map λj=>(w.cell? ⟨b,off+j,none⟩).getD undef,by simp,λj u hu=>?_⟩;rw[zbe] at hu;by_cases hj:j<n
  ·obtain ⟨hl,u',wR,h1⟩:=hx j (by omega);simp [List.getElem?_range hj,wR] at hu;subst hu;exact ⟨wR,h1,λc Cs=>hc j c _ Cs wR⟩
  ·simp [zbq (show (List.range n).length<=j by simp;omega)] at hu
theorem PB {cs:O D} {n:Nat} (h1:(P.underlying t).map lS=some false) (hs:(P.info? t).map (·.size)=some n) (hn:n<=cs.length) (hx:df env x=some (.d (.ro cs))) :
  aJ P env st ⟨d,.load t x,ty,pos,after,gd⟩ (.d (.agg (cs.take n))):=λg base w tmps hinv he=>by
 cases aR he hx with
 | d _ _ h =>
  obtain ⟨b,off,hv⟩:=PA h;rw[hv] at h;obtain ⟨vs,hl,Fj⟩:=Vm h n hn;refine ⟨.agg vs.toArray,.d _ _ (.agg _ _ (by simp [hl];omega) (λi u hu=>(Fj i u (by simpa using hu)).2.1) λi c u hc hu=>?_),λw' hb=>?_⟩
  ·rw[zam] at hc;split at hc
   ·exact (Fj i u (by simpa using hu)).2.2 c hc
   ·cases hc
  ·obtain ⟨inf,mQ,gq⟩:∃ inf,P.info? t=some inf/\inf.size=n:=by
    cases hh:P.info? t with
    | none=>rw[hh] at hs;cases hs
    | some inf=>rw[hh] at hs;exact ⟨inf,rfl,by simpa using hs⟩
   have Gn:=sL (P:=P) (w:=w') (b:=b) (off:=off) hl (λj u hu=>by
    have h3:=(Fj j u hu).1;exact (hb.cell (World.block_lt_of_cell? w _ h3)).trans h3)
   simp [execOp,hv,Instr.loadAt,Instr.sureAddr,loadVar,Af h1,sizeOf,typeInfo,mQ,gq,Gn]
theorem bZ {o off:Nat} {T:uE} {cs:O EV} {c:EV} (h1:(P.underlying t).map lS=some true) (hx:df env x=some (.ref o off)) (ho:st.aS[o]?=some (.row T cs)) (hc:cs[off]?=some c) :
  aJ P env st ⟨d,.load t x,ty,pos,after,gd⟩ c:=λg base w tmps hinv he=>by
 have h:=aR he hx;generalize hv:Act.eval ⟨tmps,[]⟩ x=v at h;cases h with
 | ref _ _ cT =>
  obtain ⟨_,_,vs,hb,gq,A9⟩:=hinv.row o T cs ho;have hoff:off<vs.size:=by rw[gq];exact (zae.1 hc).1
  have hu:vs[off]?=some vs[off]:=zbi hoff;have fN:w.cell? ⟨g.ob o,off,none⟩=some vs[off]:=by rw[cell_of_row w _ off vs T (0,0) hb];exact hu
  refine ⟨vs[off],(A9 off c _ hc hu).1,λw' mc=>?_⟩;have X1:w'.cell? ⟨g.ob o,off,none⟩=some vs[off]:=(mc.cell (World.block_lt_of_cell? w _ fN)).trans fN;simp [execOp,hv,Instr.loadAt,Instr.sureAddr,loadVar,wU h1,X1]
theorem LK {g:b8} {w:uC} {b n off:Nat} {T:uE} {cs:O EV} {vs:uD uB} (hb:w.heap[b]?=some (.cells vs T (0,0))) (gq:vs.size=cs.length) (hn:off+n<=cs.length) :
  ((vs.toList.drop off).take n).length=n/\∀ (j:Nat) u,((vs.toList.drop off).take n)[j]?=some u->w.cell? ⟨b,off+j,none⟩=some u/\vs[off+j]?=some u:=by
 refine ⟨by simp;omega,λj u hu=>?_⟩
 rw[zam] at hu;split at hu
 ·rw[zbd] at hu;have:vs[off+j]?=some u:=by simpa using hu
  exact ⟨by rw[cell_of_row w _ _ vs T (0,0) hb];exact this,this⟩
 ·cases hu
theorem b7 {o off n:Nat} {T:uE} {cs:O EV} {ds:O D} (h1:(P.underlying t).map lS=some false) (hs:(P.info? t).map (·.size)=some n) (hx:df env x=some (.ref o off)) (ho:st.aS[o]?=some (.row T cs))
  (hn:off+n<=cs.length) (hc:QZ ((cs.drop off).take n)=some ds):aJ P env st ⟨d,.load t x,ty,pos,after,gd⟩ (.d (.agg ds)):=λg base w tmps hinv he=>by
 have h:=aR he hx;generalize hv:Act.eval ⟨tmps,[]⟩ x=v at h;cases h with
 | ref _ _ cT =>
  obtain ⟨_,_,vs,hb,gq,A9⟩:=hinv.row o T cs ho;obtain ⟨hl,Fj⟩:=LK (g:=g) (w:=w) (n:=n) (off:=off) hb gq hn;have hds:=LJ hc;refine ⟨.agg ((vs.toList.drop off).take n).toArray,.d _ _ (.agg _ _ ?_ ?_ ?_),λw' mc=>?_⟩
  ·have:=zbn List.length hds;simp at this hl ⊢;omega
  ·intro i u hu;have wR:=Fj i u (by simpa using hu);have mI:off+i<cs.length:=by rw[←gq];exact (zay.1 wR.2).1
   exact (A9 (off+i) cs[off+i] u (zag mI) wR.2).2
  ·intro i c u tH hu;have wR:=Fj i u (by simpa using hu);have rR:((cs.drop off).take n)[i]?=some (.d c):=by rw[hds,zbe,tH];rfl
   rw[zam] at rR;split at rR
   ·rw[zbd] at rR;cases (A9 (off+i) _ u rR wR.2).1 with|d _ _ h=>exact h
   ·cases rR
  ·obtain ⟨inf,mQ,JW⟩:∃ inf,P.info? t=some inf/\inf.size=n:=by
    cases hh:P.info? t with
    | none=>rw[hh] at hs;cases hs
    | some inf=>rw[hh] at hs;exact ⟨inf,rfl,by simpa using hs⟩
   have Gn:=sL (P:=P) (w:=w') (b:=g.ob o) (off:=off) hl (λj u hu=>by
    have h3:=(Fj j u hu).1;exact (mc.cell (World.block_lt_of_cell? w _ h3)).trans h3)
   simp [execOp,hv,Instr.loadAt,Instr.sureAddr,loadVar,Af h1,sizeOf,typeInfo,mQ,JW,Gn]
theorem cd {cs:O D} {i:Nat} {c:D} (hx:df env x=some (.d (.dN cs))) (hc:cs[i]?=some c):aJ P env st ⟨d,.extract x i,ty,pos,after,gd⟩ (.d c):=λg base w tmps hinv he=>by
 cases aR he hx with
 | d _ _ h =>
  generalize hv:Act.eval ⟨tmps,[]⟩ x=v at h;cases h with
  | dN _ vs hs h =>
   have hi:i<vs.size:=by rw[hs];exact (zae.1 hc).1
   have hu:vs[i]?=some vs[i]:=zbi hi;exact ⟨vs[i],.d _ _ (h i c _ hc hu),λw' _=>by simp [execOp,hv,Instr.extract,hu]⟩
theorem Om {cs:O EV} {i:Nat} {c:EV} (hx:df env x=some (.dN cs)) (hc:cs[i]?=some c):aJ P env st ⟨d,.extract x i,ty,pos,after,gd⟩ c:=λg base w tmps hinv he=>by
 have h:=aR he hx;generalize hv:Act.eval ⟨tmps,[]⟩ x=v at h;cases h with
 | dN _ vs hs h =>
  have hi:i<vs.size:=by rw[hs];exact (zae.1 hc).1
  have hu:vs[i]?=some vs[i]:=zbi hi;exact ⟨vs[i],h i c _ hc hu,λw' _=>by simp [execOp,hv,Instr.extract,hu]⟩
theorem PC {s:uE} {f off:Nat} {fs:uD Field} {fl:Field} {cs:O D} {c:D} (hu:P.underlying s=some (.struct fs)) (hf:fs[f]?=some fl) (h1:(P.underlying fl.type).map lS=some true) (ho:fl.offset=off)
  (hx:df env x=some (.d (.agg cs))) (hc:cs[off]?=some c):aJ P env st ⟨d,.field s x f,ty,pos,after,gd⟩ (.d c):=λg base w tmps hinv he=>by
 cases aR he hx with
 | d _ _ h =>
  generalize hv:Act.eval ⟨tmps,[]⟩ x=v at h;cases h with
  | agg _ vs hs Gp h =>
   have hi:off<vs.size:=by rw[hs];exact (zae.1 hc).1
   have wR:vs[off]?=some vs[off]:=zbi hi;exact ⟨vs[off],.d _ _ (h off c _ hc wR),λw' _=>by simp [execOp,hv,Instr.field,run_underlying hu,hf,asAgg,part,wU h1,ho,wR]⟩
end q
def ig:EV->Option (List EV)
 | .d (.ex v)=>if v.oneCell' then some [.d (.ex v)] else none
 | .d (.agg cs)=>some (cs.map EV.d)
 | .d (.sl sz rows)=>some [.d (.sl sz rows)]
 | .d (.ro cs)=>some [.d (.ro cs)]
 | .d (.e0 sz)=>some [.d (.e0 sz)]
 | .ref o off=>some [.ref o off]
 | .Lq o off n c=>some [.Lq o off n c]
 | .cm sz rows t=>some [.cm sz rows t]
 | .mp o=>some [.mp o]
 | .u0 f cs=>some [.u0 f cs]
 | .vc t k=>some [.vc t k]
 | .vp t k i off=>some [.vp t k i off]
 | .vw t k lo n=>some [.vw t k lo n]
 | .agg cs=>some cs
 | _=>none
theorem cells_one {v:uB} (h:v.oneCell'=true):v.cells=#[v]:=by cases v <;> first|rfl|cases h
theorem r6 {g:b8} {w:uC} {st:St} {e:EV} {cs:List EV} {v:uB} (h:ig e=some cs) (hv:bP g w st e v) :
  v.cells.size=cs.length/\∀ (i:Nat) c u,cs[i]?=some c->v.cells[i]?=some u->bP g w st c u/\u.oneCell'=true:=by
 have one:∀ (hv1:v.oneCell'=true) (Ag:cs=[e]),v.cells.size=cs.length/\∀ (i:Nat) c u,cs[i]?=some c->v.cells[i]?=some u->bP g w st c u/\u.oneCell'=true:=by
  intro hv1 Ag;subst Ag;rw[cells_one hv1];refine ⟨rfl,λi c u hc hu=>?_⟩
  match i with
  | 0=>simp at hc hu;subst hc;subst hu;exact ⟨hv,hv1⟩
  | n+1=>simp at hc
 cases hv with
 | d x _ hd =>
  cases hd with
  | ex =>
   simp only[ig] at h;split at h
   ·rename_i h1;simp only[Option.some.injEq] at h;exact one h1 h.symm
   ·cases h
  | agg ds vs hs h1 hr =>
   simp only[ig,Option.some.injEq] at h;subst h;refine ⟨by simpa [Value.cells] using hs,λi c u hc hu=>?_⟩;rw[zbe] at hc;cases hx:ds[i]? with
   | none=>rw[hx] at hc;cases hc
   | some y =>
    rw[hx] at hc;simp only[Option.map_some,Option.some.injEq] at hc;subst hc;exact ⟨.d _ _ (hr i y u hx (by simpa [Value.cells] using hu)),h1 i u (by simpa [Value.cells] using hu)⟩
  | dN=>cases h
  | nil=>simp only[ig,Option.some.injEq] at h;exact one rfl h.symm
  | sl=>simp only[ig,Option.some.injEq] at h;exact one rfl h.symm
  | ro=>simp only[ig,Option.some.injEq] at h;exact one rfl h.symm
  | e0=>simp only[ig,Option.some.injEq] at h;exact one rfl h.symm
  | any=>cases h
 | ref=>simp only[ig,Option.some.injEq] at h;exact one rfl h.symm
 | Lq=>simp only[ig,Option.some.injEq] at h;exact one rfl h.symm
 | cm _ _ _ _ _ _ hd =>
  simp only[ig,Option.some.injEq] at h;obtain ⟨A,c,hv⟩:=FQ hd;exact one (by rw[hv];rfl) h.symm
 | mp=>simp only[ig,Option.some.injEq] at h;exact one rfl h.symm
 | u0=>simp only[ig,Option.some.injEq] at h;exact one rfl h.symm
 | agg ds vs hs h1 hr =>
  simp only[ig,Option.some.injEq] at h;subst h;exact ⟨by simpa [Value.cells] using hs,λi c u hc hu=>⟨hr i c u hc (by simpa [Value.cells] using hu),h1 i u (by simpa [Value.cells] using hu)⟩⟩
 | dN=>cases h
 | gd=>cases h
 | vc _ _ _ _ hf=>simp only[ig,Option.some.injEq] at h;obtain ⟨A,n,c,rfl⟩:=hf;exact one rfl h.symm
 | vp _ _ _ _ _ _ hf=>simp only[ig,Option.some.injEq] at h;obtain ⟨b,o,rfl⟩:=hf;exact one rfl h.symm
 | vw _ _ _ _ _ _ hf=>simp only[ig,Option.some.injEq] at h;obtain ⟨A,c,rfl⟩:=hf;exact one rfl h.symm
section v
variable {P:uG} {base:Nat} {env:Env} {st:St} {d:Option Tmp} {ty:uE} {pos:String} {after:uD Edge} {gd:Option (Nat×Bool)} {t t2:uE} {x y:uH}
theorem v_box {e:EV} {cs:O EV} (hx:df env x=some e) (hc:ig e=some cs):zj P base env st ⟨d,.box t x,ty,pos,after,gd⟩ (.ref st.aS.length 0) (st.add (.row t cs)):=by
 intro g w tmps hinv he;obtain ⟨h1,h2⟩:=r6 hc (aR he hx);obtain ⟨g',hi,hs,Ct⟩:=hinv.newObj (.row t cs) (.cells (Act.eval ⟨tmps,[]⟩ x).cells t) (λOn Fk e=>by cases e;exact ⟨_,rfl,h1,h2⟩) (λes e=>by cases e)
 refine ⟨.pointer (some ⟨w.heap.size,0,none⟩),g',_,?_,?_,hi,hs⟩
 ·simp [execOp,Instr.box,newVar,newRow]
 ·rw[←Ct];exact .ref _ _ (by simp [St.add])
theorem jF {z:uB} {cs:O EV} (hz:(P.info? t).bind (·.zero)=some z) (hc:ig (.d (cv z))=some cs):zj P base env st ⟨d,.alloc t,ty,pos,after,gd⟩ (.ref st.aS.length 0) (st.add (.row t cs)):=by
 intro g w tmps hinv he;obtain ⟨h1,h2⟩:=r6 (g:=g) (w:=w) (st:=st) hc (.d _ _ (rY _ _ z));obtain ⟨g',hi,hs,Ct⟩:=hinv.newObj (.row t cs) (.cells z.cells t) (λOn Fk e=>by cases e;exact ⟨_,rfl,h1,h2⟩) (λes e=>by cases e)
 obtain ⟨inf,mQ,BK⟩:∃ inf,P.info? t=some inf/\inf.zero=some z:=by
  cases hh:P.info? t with
  | none=>rw[hh] at hz;cases hz
  | some inf=>rw[hh] at hz;exact ⟨inf,rfl,hz⟩
 refine ⟨.pointer (some ⟨w.heap.size,0,none⟩),g',_,?_,?_,hi,hs⟩
 ·simp [execOp,Instr.alloc,zeroValue,typeInfo,mQ,BK,newVar,newRow]
 ·rw[←Ct];exact .ref _ _ (by simp [St.add])
def putCells (cs:List EV) (off:Nat) (new:List EV):List EV:=cs.take off++new++cs.drop (off+new.length)
theorem qn {o off:Nat} {T:uE} {cs new:O EV} {e:EV} (hx:df env x=some (.ref o off)) (hy:df env y=some e) (ho:st.aS[o]?=some (.row T cs)) (hc:ig e=some new) (hn:off+new.length<=cs.length)
  (hs:(P.info? t).map (·.size)=some new.length):JT P base env st ⟨d,.store t x y,ty,pos,after,gd⟩ (st.set o (.row T (putCells cs off new))):=by
 intro g w tmps hinv he;have h:=aR he hx;generalize hv:Act.eval ⟨tmps,[]⟩ x=v at h;obtain ⟨k1,k2⟩:=r6 hc (aR he hy);generalize hu:Act.eval ⟨tmps,[]⟩ y=u at k1 k2;cases h with
 | ref _ _ cT =>
  obtain ⟨hb,hl,vs,Lu,gq,A9⟩:=hinv.row o T cs ho;have hlen:u.cells.toList.length=new.length:=by simpa using k1
  have mJ:=run_storeCells_at P (g.ob o) off T u.cells.toList 0 vs w Lu (by simp only[zdp,hlen];omega) (λa ha=>by
   obtain ⟨i,hi⟩:=zdj.1 ha;have hi':u.cells[i]?=some a:=by simpa using hi
   have mI:i<new.length:=by rw[←k1];exact (zay.1 hi').1
   exact (k2 i new[i] a (zag mI) hi').2)
  simp only[zdp] at mJ;obtain ⟨inf,mQ,JW⟩:∃ inf,P.info? t=some inf/\inf.size=new.length:=by
   cases hh:P.info? t with
   | none=>rw[hh] at hs;cases hs
   | some inf=>rw[hh] at hs;exact ⟨inf,rfl,by simpa using hs⟩
  obtain ⟨eF,qL⟩:=hinv.setBlock (o:=o) (x:=.row T (putCells cs off new)) (w':=w.setRow (g.ob o) (vs.toList.take off++u.cells.toList++vs.toList.drop (off+u.cells.toList.length)).toArray)
   ⟨_,ho,by simp⟩ hl (by simp) (λb mc=>setRow_other w _ b _ mc) rfl rfl rfl
   (λSs On Fk lO=>by
    cases lO;refine ⟨_,setRow_heap w _ vs _ T (0,0) Lu,by simp [putCells,gq,k1],λi c a tH ha=>?_⟩;have W9:bP g w st c a/\a.oneCell'=true:=by
     simp only[putCells] at tH;have Su:(vs.toList.take off++u.cells.toList++vs.toList.drop (off+u.cells.toList.length))[i]?=some a:=by simpa using ha
     by_cases h1:i<off
     ·rw[zar,zap (by simp;omega),zam,zab h1] at tH Su;exact A9 i c a tH (by simpa using Su)
     ·by_cases h2:i<off+new.length
      ·rw[zar,zax (by simp;omega),zap (by simp [hlen,gq];omega)] at tH Su;have e1:(cs.take off).length=off:=by simp;omega
       have e2:(vs.toList.take off).length=off:=by simp;omega
       rw[e1] at tH;rw[e2] at Su;exact k2 (i-off) c a tH (by simpa using Su)
      ·rw[zax (by simp [hlen,gq];omega)] at tH Su;have e1:(cs.take off++new).length=off+new.length:=by simp;omega
       have e2:(vs.toList.take off++u.cells.toList).length=off+new.length:=by simp [hlen];omega
       rw[e1,zbd] at tH;rw[e2,zbd,hlen] at Su;exact A9 _ c a tH (by simpa using Su)
    exact ⟨W9.1.mono Ss,W9.2⟩) (λ_ es lO=>by cases lO)
  refine ⟨g,_,?_,eF,qL⟩;simp [execOp,hv,hu,Instr.storeAt,Instr.sureAddr,storeVar,sizeOf,typeInfo,mQ,JW,k1,mJ]
end v
def Good (g:b8) (w:uC) (st:St) (x:EV) (dG:Nat->Nat) (w':uC) (v:uB):Prop :=
 bP { g with lim:=dG } w' st x v/\Below w.heap.size w w'/\∀ b,b<w.heap.size->dG b=g.lim b
def BL (P:uG) (env:Env) (st:St) (o:Oper) (x:EV):Prop :=
 ∀ g base w tmps,Inv g base w st->eB g w st env tmps ->
  (∃ v dG w',(execOp (Act.eval ⟨tmps,[]⟩) o).run P w=.ok (.value v) w'/\Good g w st x dG w' v) ∨
  (∃ f' args,(execOp (Act.eval ⟨tmps,[]⟩) o).run P w=.ok (.enter f' args) w/\Calls P f' args w λe w'=>∃ v dG,e=.returned v/\Good g w st x dG w' v)
section g
variable {P:uG} {f:Ctx} {N:Nat} {S:Start} {Q:EV->St->Prop} {k:List Item} {env:Env} {st:St} {ops rest:List Oper}
 {d:Option Tmp} {op:Op} {ty:uE} {pos:String} {after:uD Edge} {gd:Option (Nat×Bool)} {t t2 e:uE} {x y:uH}
theorem aJ.g {o:Oper} {r:EV} (h:aJ P env st o r):BL P env st o r:=λg base w tmps hi he =>
 let ⟨v,h1,h2⟩:=h g base w tmps hi he
 .inl ⟨v,g.lim,w,h2 w (.refl _ _),h1,.refl _ _,λ_ _=>rfl⟩
theorem aB {f':FuncId} {l:O uH} {ts:uD uE} {es:O EV} {ds:O D} {r:D} (Fi:Enters P f') (h1:DJ env l=some es) (h2:Oj es=some ds) (hc:aE P f' ds (·=r)) :
  BL P env st ⟨d,.call ⟨.value (.func f'),l.toArray,ts⟩,ty,pos,after,gd⟩ (.d r):=λg base w tmps hi he=>by
 refine .inr ⟨f',_,DK Fi w rfl,(hc g.lim w _ (hi.Fg.mono hi.base) (.of he h1 h2)).mono ?_⟩;rintro e w' ⟨v,r',dG,rfl,rfl,hr,Sv,hb,hl⟩;exact ⟨v,dG,rfl,.d _ _ hr,hb,hl⟩
theorem cr.g {x:EV} (h:BL P env st ⟨d,op,ty,pos,after,none⟩ x) (hd:hZ N d=true) (hk:cr P f N S Q ops rest k (env.put d x) st) :
  cr P f N S Q ops (⟨d,op,ty,pos,after,none⟩::rest) k env st:=by
 intro i hi g w tmps hinv hh he hn;have ho:ops.toArray[i]?=some ⟨d,op,ty,pos,after,none⟩:=by simpa using (hi 0).symm
 have hi':∀ j:Nat,rest[j]?=ops[i+1+j]?:=λj=>by have:=hi (j+1);simpa [zco,zdo 1 j] using this
 rw[zad,jE];subst hn;rcases h g S.base w tmps hinv he with ⟨v,dG,w',hr,hx,hb,hl⟩|⟨f',args,hr,hc⟩
 ·obtain ⟨eF,hs⟩:=hinv.grow (g':={ g with lim:=dG }) hb hl rfl rfl;exact e9.value ho (by simp [Region.wanted]) hr (hk (i+1) hi' _ w' _ eF (hh.step hs) (rZ (he.mono hs.dZ) hd hx) js)
 ·refine e9.call ho (by simp [Region.wanted]) hr (hc.mono ?_);rintro e w' ⟨v,dG,rfl,hx,hb,hl⟩;obtain ⟨eF,hs⟩:=hinv.grow (g':={ g with lim:=dG }) hb hl rfl rfl;exact ⟨v,rfl,hk (i+1) hi' _ w' _ eF (hh.step hs) (rZ (he.mono hs.dZ) hd hx) js⟩
theorem cr.kC {d t:Tmp} {j:Nat} {want b:Bool} {c x:EV} {env':Env} (hj:(ops[j]?).bind (·.dst)=some t) (hl:lookup t env=some c) (hc:Gm c want=some b)
  (hE:Cr b env env') (hd:hZ N (some d)=true) (h:b=true->BL P env' st ⟨some d,op,ty,pos,after,some (j,want)⟩ x) (hk:cr P f N S Q ops rest k ((d,.gd b x)::env) st) :
  cr P f N S Q ops (⟨some d,op,ty,pos,after,some (j,want)⟩::rest) k env st:=by
 intro i hi g w tmps hinv hh he hn;have ho:ops.toArray[i]?=some ⟨some d,op,ty,pos,after,some (j,want)⟩:=by simpa using (hi 0).symm
 obtain ⟨v,hv,hr⟩:=he t c hl;have hw:Region.wanted ⟨some d,op,ty,pos,after,some (j,want)⟩ (yielded ops.toArray tmps)=b:=by
  rw[←uQ hc hr];have Ls:((ops.toArray)[j]?).bind (·.dst)=some t:=by simpa using hj
  simp only[Region.wanted,yielded,Ls,zac,hv];cases v <;> rfl
 rw[zad,jE];subst hn;have hi':∀ j:Nat,rest[j]?=ops[i+1+j]?:=λj=>by have:=hi (j+1);simpa [zco,zdo 1 j] using this
 cases b with
 | false=>exact e9.zi ho hw (hk (i+1) hi' g w _ hinv hh (rZ (d:=some d) he hd (.gd _ _ _ (λ_=>rfl) (λh=>by cases h))) js)
 | true =>
  rcases h rfl g S.base w tmps hinv (he.gd hE rfl) with ⟨v,dG,w',hr,hx,hb,hl⟩|⟨f',args,hr,hc⟩
  ·obtain ⟨eF,hs⟩:=hinv.grow (g':={ g with lim:=dG }) hb hl rfl rfl;exact e9.value ho hw hr (hk (i+1) hi' _ w' _ eF (hh.step hs) (rZ (d:=some d) (he.mono hs.dZ) hd (.gd _ _ _ (λh=>by cases h) (λ_=>hx))) js)
  ·refine e9.call ho hw hr (hc.mono ?_);rintro e w' ⟨v,dG,rfl,hx,hb,hl⟩;obtain ⟨eF,hs⟩:=hinv.grow (g':={ g with lim:=dG }) hb hl rfl rfl;exact ⟨v,rfl,hk (i+1) hi' _ w' _ eF (hh.step hs) (rZ (d:=some d) (he.mono hs.dZ) hd (.gd _ _ _ (λh=>by cases h) (λ_=>hx))) js⟩
theorem mg {sz:Nat}:∀ {rows:O (O D)} (h:∀ row∈rows,row.length=sz) {i j:Nat} {row:O D} {c:D},rows[i]?=some row->row[j]?=some c->rows.flatten[i*sz+j]?=some c
 | [],_,i,j,row,c,hr,_=>by simp at hr
 | r::rows,h,0,j,row,c,hr,hc=>by
  simp at hr;subst hr;rw[zez,zfz,zbu,zap (zae.1 hc).1];exact hc
 | r::rows,h,i+1,j,row,c,hr,hc=>by
  have hl:=h r (by simp);rw[zez,zdk,zax (by omega)];have:=mg (rows:=rows) (λr hr=>h r (by simp [hr])) (by simpa using hr) hc;rw[←this];congr 1;omega
theorem jT {sz:Nat}:∀ {rows:O (O D)},(∀ row∈rows,row.length=sz)->rows.flatten.length=rows.length*sz
 | [],_=>by simp
 | r::rows,h=>by
  have h1:=h r (by simp);have h2:=jT (rows:=rows) (λr hr=>h r (by simp [hr]));rw[zez,zah,h1,h2,zad,zdk];omega
theorem PD {g:b8} {w w0:uC} {sz cap:Nat} {rows:O (O D)} {vs:uD uB} {e:uE} (hw:w0.heap=w.heap) (Pz:w0.os=w.os) (htp:w0.tape=w.tape) (XX:w0.output=w.output)
  (hr:∀ row∈rows,row.length=sz) (hc:rows.length<=cap) (hn:rows.length*sz<=vs.size)
  (fN:∀ (i:Nat) c (u:uB),rows.flatten[i]?=some c->vs[i]?=some u->dY g.lim w c u/\u.oneCell'=true) :
  ∃ dG,dY dG (w0.alloc (.cells vs e)) (.sl sz rows) (.slice (some ⟨w.heap.size,0,none⟩) rows.length cap)/\Below w.heap.size w (w0.alloc (.cells vs e))/\(∀ b,b<w.heap.size->dG b=g.lim b):=by
 have hb:Below w.heap.size w (w0.alloc (.cells vs e)):=by
  refine ⟨Pz,htp,XX,by simp [hw],λk hk=>?_⟩;rw[Below.heap_alloc _ _ _ (by rw[hw];exact hk),hw]
 let dG:Nat->Nat:=λb=>if b=w.heap.size then rows.length*sz else g.lim b
 have BI:∀ b,b<w.heap.size->dG b=g.lim b:=λb hb=>by show (if _ then _ else _)=_;rw[zaa (by omega)]
 have LI:(w0.alloc (.cells vs e)).heap[w.heap.size]?=some (.cells vs e):=by rw[←hw];exact heap_alloc_new w0 _
 have Sv:N5 g.lim w dG (w0.alloc (.cells vs e)):=⟨hb.size,λb mc=>by rw[BI b mc];exact zaq _,λb off mc _=>hb.cell (p:=⟨b,off,none⟩) mc⟩
 have DL:∀ i,(w0.alloc (.cells vs e)).cell? ⟨w.heap.size,i,none⟩=vs[i]?:=λi=>cell_of_row _ _ i vs e (0,0) LI
 have Fl:=jT hr;refine ⟨dG,.sl sz rows _ 0 cap hc hr ?_ ?_,hb,BI⟩
 ·intro k hk;have hkv:k<vs.size:=by omega
  have hu:vs[k]?=some vs[k]:=zbi hkv;have Vn:k<rows.flatten.length:=by omega
  refine ⟨by show 0+k<(if _ then _ else _);rw[zab rfl];omega,vs[k],by rw[zbu,DL];exact hu,(fN k _ _ (zag Vn) hu).2⟩
 ·intro i j row c u hi hj hu;rw[zbu,DL] at hu;exact ((fN _ c u (mg hr hi hj) hu).1).mono Sv
theorem Sw {lim:Nat->Nat} {w:uC} {sz:Nat} {rows:O (O D)} {v:uB} (h:dY lim w (.sl sz rows) v) :
  ∃ (A:J Addr) (c:Nat) (vs:O uB),v=.slice A rows.length c/\vs.length=rows.length*sz/\(rows.length=0∨∃ b off,A=some ⟨b,off,none⟩)/\(A=none->rows.length=0/\c=0) /\
   (∀ b off,A=some ⟨b,off,none⟩->∀ (j:Nat) u,vs[j]?=some u->w.cell? ⟨b,off+j,none⟩=some u)/\(∀ row∈rows,row.length=sz) /\
   ∀ (j:Nat) u c,vs[j]?=some u->rows.flatten[j]?=some c->dY lim w c u/\u.oneCell'=true:=by
 cases h with
 | nil _ A=>exact ⟨A,0,[],rfl,by simp,.inl rfl,λ_=>⟨rfl,rfl⟩,by simp,by simp,by simp⟩
 | sl _ _ b off cap hc hr hx h =>
  have Fl:=jT hr;refine ⟨some ⟨b,off,none⟩,cap,(List.range (rows.length*sz)).map λj=>(w.cell? ⟨b,off+j,none⟩).getD undef,rfl,by simp,.inr ⟨b,off,rfl⟩,(λh=>by cases h),?_,hr,?_⟩
  ·intro b' Sx he j u hu;cases he;rw[zbe] at hu;by_cases hj:j<rows.length*sz
   ·obtain ⟨_,u',wR,h1⟩:=hx j hj;simp [List.getElem?_range hj,wR] at hu;subst hu;exact wR
   ·simp [zbq (show (List.range (rows.length*sz)).length<=j by simp;omega)] at hu
  ·intro j u c hu tH;have hj:j<rows.length*sz:=by have:=(zae.1 tH).1;omega
   rw[zbe] at hu;obtain ⟨_,u',wR,h1⟩:=hx j hj;simp [List.getElem?_range hj,wR] at hu;subst hu;refine ⟨?_,h1⟩;have gq:0<sz:=by
    rcases zev sz with h0|h0
    ·subst h0;omega
    ·exact h0
   have Oo:j=(j / sz)*sz+j % sz:=by rw[zdr];exact (zew j sz).symm
   have hi:j / sz<rows.length:=zdx (by rw[zdr];exact hj);have hm:j % sz<rows[j / sz].length:=by rw[hr _ (zfh hi)];exact zen _ gq
   have hg:=mg hr (zag hi) (zag hm);rw[←Oo,tH] at hg;cases hg;refine h (j / sz) (j % sz) _ _ u' (zag hi) (zag hm) ?_;rw[←Oo];exact wR
theorem X2 {lim:Nat->Nat} {w:uC} {sz:Nat} {rows:O (O D)} {A:J Addr} {c l h:Nat} (hd:dY lim w (.sl sz rows) (.slice A rows.length c)) (hlh:l<=h) (hh:h<=rows.length) (hc:rows.length<=c) :
  dY lim w (.sl sz ((rows.take h).drop l)) (sliced A l h c sz):=by
 unfold sliced;have hlen:((rows.take h).drop l).length=h-l:=by simp;omega
 cases hd with
 | nil =>
  have:h=0:=by simpa using hh
  subst this;have:l=0:=by omega
  subst this;simpa using dY.nil sz _
 | sl _ _ b off cap tH hr hx fN =>
  have key:∀ Sx,(Sx=off+l*sz∨h-l=0)->dY lim w (.sl sz ((rows.take h).drop l)) (.slice (some ⟨b,Sx,none⟩) (h-l) (c-l)):=by
   intro Sx ho;rw[←hlen];refine .sl sz _ b Sx (c-l) (by rw[hlen];omega) (λrow hm=>hr row (zdy (zdd hm))) ?_ ?_
   ·intro k hk;rw[hlen] at hk;rcases ho with rfl|h0
    ·have hb:l*sz+k<rows.length*sz:=by
      have h1:(l+(h-l))*sz<=rows.length*sz:=zcw sz (by omega);rw[zdk] at h1;omega
     have:=hx (l*sz+k) hb;rw[zco];exact this
    ·rw[h0,zfz] at hk;omega
   ·intro i j row cc u hi hj hu;rcases ho with rfl|h0
    ·rw[zbd,zam] at hi;split at hi
     ·refine fN (l+i) j row cc u hi hj ?_;rw[←hu];congr 2;rw[zdk];omega
     ·cases hi
    ·have:=(zae.1 hi).1;omega
  split
  ·rename_i s7;exact key off (.inr (by omega))
  ·simp only[Option.map_some,Addr.add_lit];exact key _ (.inl rfl)
end g
def vP:EV->Option (Nat×List (List D))
 | .d (.sl sz rows)=>some (sz,rows)
 | .d (.e0 sz)=>some (sz,[])
 | .cm sz rows _=>some (sz,rows)
 | _=>none
theorem s9 {g:b8} {w:uC} {st:St} {e:EV} {sz:Nat} {rows:O (O D)} {v:uB} (h:vP e=some (sz,rows)) (hv:bP g w st e v):dY g.lim w (.sl sz rows) v:=by
 unfold vP at h;split at h
 ·cases h;cases hv with|d _ _ h=>exact h
 ·cases h;cases hv with|d _ _ h=>exact D.Py h
 ·cases h;cases hv with|cm _ _ _ _ _ _ h=>exact h
 ·cases h
section q
variable {P:uG} {base:Nat} {env:Env} {st:St} {d:Option Tmp} {ty:uE} {pos:String} {after:uD Edge} {gd:Option (Nat×Bool)} {t t2 e:uE} {x y z:uH}
theorem sM (ht:P.underlying t=some (.slice e)):P.elem t=e:=by simp [Program.elem,ht]
theorem qo {inf:TypeInfo} {e:uE} (hi:P.info? e=some inf) (w:uC):(sizeOf e).run P w=.ok inf.size w:=by simp [sizeOf,typeInfo,hi]
section sl
variable {sz:Nat} {rows:List (List D)} {ev:EV} {inf:TypeInfo} (ht:P.underlying t=some (.slice e)) (hi:P.info? e=some inf) (gq:inf.size=sz) (hx:df env x=some ev) (hs:vP ev=some (sz,rows))
include ht hi gq hx hs
theorem Oq {g:b8} {w:uC} {tmps:uD uB} (he:eB g w st env tmps) {l h:Nat} (hlh:l<=h) (hh:h<=rows.length) {lo hi':J uH}
  (hb:∀ (A:J Addr) (c:Nat),rows.length<=c->∀ w':uC,(Instr.slice t (.slice A rows.length c) (lo.map (Act.eval ⟨tmps,[]⟩)) (hi'.map (Act.eval ⟨tmps,[]⟩)) none).run P w'=.ok (sliced A l h c sz) w') :
  ∃ v,bP g w st (.d (.sl sz ((rows.take h).drop l))) v/\∀ w',Below w.heap.size w w'->(execOp (Act.eval ⟨tmps,[]⟩) ⟨d,.slice t x lo hi' none,ty,pos,after,gd⟩).run P w'=.ok (.value v) w':=by
 have hd:=s9 hs (aR he hx);obtain ⟨A,c,hv⟩:=FQ hd;rw[hv] at hd;have hc:rows.length<=c:=by
  cases hd with
  | nil=>exact zaq _
  | sl _ _ _ _ _ hc=>exact hc
 refine ⟨_,.d _ _ (X2 hd hlh hh hc),λw' _=>?_⟩;simp only[execOp,hv,Sem.run_bind,run_sliceAt_slice w' t _ _ _ _ (by rw[sM ht];exact ht),Option.map_none,hb A c hc w',Result.andThen_ok,Sem.run_pure]
theorem X3 {kl kh:IntKind} {l h:Int} (hy:df env y=some (.d (.ex (.int kl l)))) (hz:df env z=some (.d (.ex (.int kh h)))) (h0:0<=l) (h1:l<=h) (h2:h<=rows.length) :
  aJ P env st ⟨d,.slice t x (some y) (some z) none,ty,pos,after,gd⟩ (.d (.sl sz ((rows.take h.toNat).drop l.toNat))):=λg base w tmps hinv he =>
 Oq ht hi gq hx hs he (by omega) (by omega) λA c hc w'=>by
  simp only[Option.map_some,(aR he hy).bO,(aR he hz).bO];rw[run_slice_lh w' t A rows.length c (by rw[sM ht];exact ht) kl kh l h h0 h1 (by omega)];simp [sM ht,qo hi,gq]
theorem q_slH {kh:IntKind} {h:Int} (hz:df env z=some (.d (.ex (.int kh h)))) (h0:0<=h) (h2:h<=rows.length) :
  aJ P env st ⟨d,.slice t x none (some z) none,ty,pos,after,gd⟩ (.d (.sl sz (rows.take h.toNat))):=λg base w tmps hinv he=>by
 have:=Oq (d:=d) (ty:=ty) (pos:=pos) (after:=after) (gd:=gd) ht hi gq hx hs he (l:=0) (h:=h.toNat) (lo:=none) (hi':=some z) (by omega) (by omega) λA c hc w'=>by
  simp only[Option.map_some,Option.map_none,(aR he hz).bO];rw[run_slice_h w' t A rows.length c (by rw[sM ht];exact ht) kh h h0 (by omega)];simp [sM ht,qo hi,gq]
 simpa using this
theorem q_slL {kl:IntKind} {l:Int} (hy:df env y=some (.d (.ex (.int kl l)))) (h0:0<=l) (h1:l<=rows.length) :
  aJ P env st ⟨d,.slice t x (some y) none none,ty,pos,after,gd⟩ (.d (.sl sz (rows.drop l.toNat))):=λg base w tmps hinv he=>by
 have:=Oq (d:=d) (ty:=ty) (pos:=pos) (after:=after) (gd:=gd) ht hi gq hx hs he (l:=l.toNat) (h:=rows.length) (lo:=some y) (hi':=none) (by omega) (by omega) λA c hc w'=>by
  simp only[Option.map_some,Option.map_none,(aR he hy).bO];rw[run_slice_l w' t A rows.length c (by rw[sM ht];exact ht) kl l h0 (by omega)];simp [sM ht,qo hi,gq]
 simpa using this
end sl
section str
variable {a:List uA} (ht:P.underlying t=some .string) (hx:df env x=some (.d (.ex (.string ⟨a.toArray⟩))))
include ht hx
theorem Vo {kl kh:IntKind} {l h:Int} (hy:df env y=some (.d (.ex (.int kl l)))) (hz:df env z=some (.d (.ex (.int kh h)))) (h0:0<=l) (h1:l<=h) (h2:h<=a.length) :
  aJ P env st ⟨d,.slice t x (some y) (some z) none,ty,pos,after,gd⟩ (.d (.ex (.string ⟨((a.drop l.toNat).take (h.toNat-l.toNat)).toArray⟩))):=r3 λg w tmps w' he=>by
 have e1:(h.toNat:Int)=h:=Int.toNat_of_nonneg (by omega);have Gq:=run_sliceBound (P:=P) w' kl l h.toNat .sliceB h0 (by omega);have Gr:=run_sliceBound (P:=P) w' kh h a.length .sliceAlen (by omega) h2;simp [execOp,(aR he hx).bO,(aR he hy).bO,(aR he hz).bO,Instr.sliceAt,Instr.slice,run_underlying ht,Instr.sliceBounds,ByteArray.size_mk',Gq,Gr,ByteArray.extract_mk]
end str
structure Src (P:uG) (w:uC) (sz:Nat) (u:uB) (m:Nat) (news:List uB):Prop where
 len:Builtin.lenOf u=pure m
 cells:∀ w':uC,w'.heap=w.heap->(Builtin.firstCells sz m u).run P w'=.ok news.toArray w'
 size:news.length=m*sz
 one:∀ v∈news,v.oneCell'=true
theorem mL (w:uC) {base ty sz:Nat} {inf:TypeInfo} {zv:uB} {d2:TypeDesc} (ht:P.underlying t=some (.slice e)) (DM:P.underlying t2=some d2) (Im:d2=.string∨∃ e2,d2=.slice e2) (hi:P.info? e=some inf) (hz:inf.zero=some zv)
  (fg:inf.size=sz) (rU:zv.cells.size=sz) {v:uB} {n:Nat} {xs:O uB} (lT:w.ownsRow base e sz v n xs) {u:uB} {m:Nat} {news:O uB} (hs:Src P w sz u m news)
  (Ot:n+m<=maxLen) (Sy:(n+m)*inf.bytes<=140737488355328) (mf:base<=w.heap.size) :
  ∃ v' w',(Builtin.append_ #[t,t2] ty #[v,u]).run P w=.ok v' w'/\w'.ownsRow base e sz v' (n+m) (xs++news)/\(m=0->v'=v) /\
   ((v'.ownBlock=v.ownBlock/\w'.heap.size=w.heap.size/\w.grownBy w' v.ownBlock)∨(v'.ownBlock=some w.heap.size/\Below w.heap.size w w')):=by
 rcases Im with rfl|⟨e2,rfl⟩
 all_goals
  subst fg;have hsmall:n+m<=9223372036854775807:=by simp only[maxLen] at Ot;omega
  have hlen:(xs++news).length=(n+m)*inf.size:=by rw[zah,lT.1,hs.size,zdk]
  have hl:=hs.len;have grown:∀ (old:Nat),old<n+m ->
    (w.drew.alloc (.cells (xs.toArray++news.toArray++Builtin.zeroCells zv.cells (grownCap w (n+m) old e-(n+m))) e)).ownsRow base e inf.size
     (.slice (some ⟨w.heap.size,0,none⟩) (n+m) (grownCap w (n+m) old e)) (n+m) (xs++news) /\
    Below w.heap.size w (w.drew.alloc (.cells (xs.toArray++news.toArray++Builtin.zeroCells zv.cells (grownCap w (n+m) old e-(n+m))) e)):=by
   intro old ho;have U6:=grownCap_ge w (n+m) old e;have AL:grownCap w (n+m) old e<=maxLen:=grownCap_le_maxLen w (n+m) old e Ot;refine ⟨⟨hlen,.inr ⟨w.heap.size,_,_,rfl,mf,heap_alloc_new w.drew _,U6,AL,?_,?_⟩⟩,((Below.refl _ w).drew).alloc (zaq _) _⟩
   ·simp only[zfr,zbx,size_zeroCells,rU,lT.1,hs.size,←zdk];congr 1;omega
   ·simp only[zgg,zar];rw[←zar,←hlen];exact zfn
  rcases lT.2 with ⟨rfl,rfl⟩|⟨g,cap,cur,rfl,hbg,hg,Fm,AL,Ag,PE⟩
  ·have hx:xs=[]:=zba (by simpa using lT.1);subst hx;by_cases hm:m=0
   ·subst hm;have hn:news=[]:=zba (by simpa using hs.size);subst hn;refine ⟨.slice none 0 0,w,?_,World.ownsRow_nil w base e inf.size,λ_=>rfl,.inl ⟨rfl,rfl,⟨rfl,rfl,rfl,zaq _,λ_ _ _=>rfl⟩⟩⟩;have hf:=hs.cells w rfl;simp [Builtin.append_,run_underlying ht,run_underlying DM,sizeOf,typeInfo,hi,hl,hf]
   ·have X4:=grown 0 (by omega);refine ⟨_,_,?_,X4.1,λh0=>by omega,.inr ⟨rfl,X4.2⟩⟩;have hf:=hs.cells w.drew rfl;have Vp:¬ m=0:=hm;have Ou:¬ (9223372036854775807<(m:Int)):=by omega
    have Ov:¬ (281474976710656<Builtin.nextslicecap m 0*inf.bytes):=by
     have mc:=Sy;rw[zbu] at mc;have:=growslice_fits (need:=m) (old:=0) (by omega) mc;omega
    simp [Builtin.append_,run_underlying ht,run_underlying DM,sizeOf,typeInfo,zeroValue,hi,hz,hl,Vp,Ou,Ov,Question.forced,run_firstCells_none,hf,newRow,grownCap]
  ·by_cases vW:n+m<=cap
   ·have Cu:n*inf.size+news.length<=cur.size:=by rw[hs.size,Ag,←zdk];exact zcw _ vW
    have mJ:=run_storeCells_at P g (n*inf.size) e news 0 cur w hg (by simpa using Cu) hs.one;simp only[zdp] at mJ;have hf:=hs.cells w rfl;refine ⟨.slice (some ⟨g,0,none⟩) (n+m) cap,w.setRow g (cur.toList.take (n*inf.size)++news++cur.toList.drop (n*inf.size+news.length)).toArray,?_,⟨hlen,.inr ⟨g,cap,_,rfl,hbg,setRow_heap w g cur _ e _ hg,vW,AL,?_,?_⟩⟩,λh0=>by subst h0;rfl,.inl ⟨rfl,by simp,⟨rfl,rfl,rfl,by simp,λk _ hk=>setRow_other w g k _ (λe=>hk (by simp [Value.ownBlock,e]))⟩⟩⟩
    ·simp [Builtin.append_,run_underlying ht,run_underlying DM,sizeOf,typeInfo,hi,hl,vW,hf,Addr.add_lit,mJ]
    ·simp only[zbx,zah,zbb,zbh,zdb];omega
    ·rw[PE,←hlen];exact zfn
   ·have holds:∀ j u,xs[j]?=some u->w.cell? ((⟨g,0,none⟩:Addr).add j)=some u:=lT.cells (g:=g) rfl;have X4:=grown cap (by omega);refine ⟨_,_,?_,X4.1,λh0=>by omega,.inr ⟨rfl,X4.2⟩⟩;have hf:=hs.cells w.drew rfl;have hold:=run_firstCells_some (P:=P) w.drew inf.size n ⟨g,0,none⟩ n cap xs lT.1 (by simpa using holds);have Ou:¬ (9223372036854775807<((n:Int)+(m:Int))):=by omega
    have Ov:¬ (281474976710656<Builtin.nextslicecap (n+m) cap*inf.bytes):=by
     have:=growslice_fits (need:=n+m) (old:=cap) (by omega) Sy;omega
    simp [Builtin.append_,run_underlying ht,run_underlying DM,sizeOf,typeInfo,zeroValue,hi,hz,hl,vW,Ou,Ov,Question.forced,hold,hf,newRow,grownCap];rw[show (xs++news).toArray=xs.toArray++news.toArray from by simp,Array.append_assoc]
end q
theorem JX {w:uC} {lim:Nat->Nat} {base e sz n:Nat} {v:uB} {xs:O uB} {rows:O (O D)} (ho:w.ownsRow base e sz v n xs) (hn:rows.length=n) (hr:∀ row∈rows,row.length=sz)
  (hl:∀ b,v.ownBlock=some b->n*sz<=lim b) (hx:∀ (j:Nat) u c,xs[j]?=some u->rows.flatten[j]?=some c->dY lim w c u/\u.oneCell'=true):dY lim w (.sl sz rows) v:=by
 rcases ho.2 with ⟨rfl,rfl⟩|⟨g,cap,cur,rfl,hb,hg,Fm,AL,Ag,PE⟩
 ·have:rows=[]:=zba hn;subst this;exact .nil sz _
 ·subst hn;have Fl:=jT hr;have tJ:=ho.cells (g:=g) rfl;refine .sl sz rows g 0 cap Fm hr ?_ ?_
  ·intro k hk;have Vq:k<xs.length:=by rw[ho.1];exact hk
   have h1:=tJ k xs[k] (zag Vq);rw[Addr.add_lit] at h1;have Vn:k<rows.flatten.length:=by rw[Fl];exact hk
   exact ⟨by have:=hl g rfl;omega,xs[k],h1,(hx k _ _ (zag Vq) (zag Vn)).2⟩
  ·intro i j row c u hi hj hu;have cT:=BD (zae.1 hi).1 (show j<sz by rw[←hr row (zbj hi)];exact (zae.1 hj).1);have Vq:i*sz+j<xs.length:=by rw[ho.1];exact cT
   have h1:=tJ _ xs[i*sz+j] (zag Vq);rw[Addr.add_lit,hu] at h1;cases h1;exact (hx _ _ _ (zag Vq) (mg hr hi hj)).1
structure BM (P:uG) (lim:Nat->Nat) (w:uC) (sz:Nat) (u:uB) (rs:List (List D)) (news:List uB):Prop where
 src:Src P w sz u rs.length news
 rows:∀ row∈rs,row.length=sz
 rep:∀ (j:Nat) v c,news[j]?=some v->rs.flatten[j]?=some c->dY lim w c v/\v.oneCell'=true
theorem uR {P:uG} {lim:Nat->Nat} {w:uC} {sz:Nat} {u:uB} {rows:O (O D)} (h:dY lim w (.sl sz rows) u):∃ news,BM P lim w sz u rows news:=by
 obtain ⟨A,c,vs,rfl,hl,hA,Io,fN,hr,od⟩:=Sw h;have Fl:=jT hr;refine ⟨vs,⟨rfl,λw' hw=>?_,hl,λv hv=>?_⟩,hr,od⟩
 ·cases A with
  | none =>
   have:vs=[]:=zba (by rw[hl,(Io rfl).1];simp);subst this;simp [Builtin.firstCells]
  | some ad =>
   rcases hA with h0|⟨b,off,DN⟩
   ·have:vs=[]:=zba (by rw[hl,h0];simp);subst this;simp [Builtin.firstCells,h0,loadCells,loadCellsFrom]
   ·cases DN;refine run_firstCells_some w' sz rows.length _ _ c vs hl λj v hv=>?_
    rw[Addr.add_lit];have:=fN b off rfl j v hv;simpa [World.cell?,hw] using this
 ·obtain ⟨j,hj⟩:=zdj.1 hv;have Ls:=(zae.1 hj).1;exact (od j v _ hj (zag (by omega))).2
section append
variable {P:uG} {g:b8} {base:Nat} {w:uC} {st:St}
def iR.Ow (x:iR):Nat:=if x.own=none then x.n*x.sz else 0
theorem u6 {x:iR} (h:x.own=none):x.Ow=x.n*x.sz:=by simp [iR.Ow,h]
theorem Cv {x:iR} {p:O (O D)} (h:x.own=some p):x.Ow=0:=by simp [iR.Ow,h]
theorem Inv.LL (h:Inv g base w st) {t:Nat} {x:iR} (hx:st.av[t]?=some x) {b:Nat} (hb:(g.tk t).ownBlock=some b):g.lim b=x.Ow:=by
 obtain ⟨e,sz,n,own⟩:=x;cases own with
 | none=>obtain ⟨xs,_,h2⟩:=h.tail t e sz n hx;exact h2 b hb
 | some rows=>obtain ⟨xs,_,h2,_⟩:=h.own t e sz n rows hx;exact h2 b hb
theorem Inv.Q1 (h:Inv g base w st) {tk:Nat} {x x':iR} (fO:st.av[tk]?=some x) {v':uB} {w':uC} {Xa:O uB} (lP:w'.ownsRow base x'.e x'.sz v' x'.n Xa)
  (hc:(v'.ownBlock=(g.tk tk).ownBlock/\w'.heap.size=w.heap.size/\w.grownBy w' (g.tk tk).ownBlock)∨(v'.ownBlock=some w.heap.size/\Below w.heap.size w w'))
  (Vr:x.own=none->x'.own=none/\x'.e=x.e/\x'.sz=x.sz/\x.n<=x'.n/\(x'.n=x.n->v'=g.tk tk)/\(∀ b,(g.tk tk).ownBlock=some b->v'.ownBlock=some b->∀ off,off<x.n*x.sz->w'.cell? ⟨b,off,none⟩=w.cell? ⟨b,off,none⟩))
  (hprv:∀ rows,x.own=some rows->∀ bE,x'.own=some bE->x'.sz=x.sz/\x.n<=x'.n/\(x.n=x'.n->v'=g.tk tk))
  (od:∀ bE,x'.own=some bE->dF g.lim w x'.sz x'.n bE Xa) :
  ∃ g',g'.tk tk=v'/\(∀ b,v'.ownBlock=some b->g'.lim b=x'.Ow)/\Inv g' base w' (st.bG tk x')/\Step base g w st g' w' (st.bG tk x'):=by
 have Gs:∀ b,(g.tk tk).ownBlock=some b->g.lim b=x.Ow:=λb hb=>h.LL fO hb
 have cT:∀ b,(g.tk tk).ownBlock=some b->base<=b/\b<w.heap.size:=λb hb=>h.xH fO hb
 have hlen:tk<st.av.length:=(zae.1 fO).1;have fg:w.heap.size<=w'.heap.size:=by rcases hc with ⟨_,h1,_⟩|⟨_,h1⟩;omega;exact h1.size
 have Pz:w'.os=w.os/\w'.tape=w.tape/\w'.output=w.output:=by rcases hc with ⟨_,_,h1⟩|⟨_,h1⟩ <;> exact ⟨h1.os,h1.tape,h1.output⟩
 have oe:∀ k,k<w.heap.size->(g.tk tk).ownBlock≠some k->w'.heap[k]?=w.heap[k]?:=by
  intro k hk fK;rcases hc with ⟨_,_,h1⟩|⟨_,h1⟩
  ·exact h1.block k hk (zcl fK)
  ·exact h1.block k hk
 have u4:∀ k,k<w.heap.size->(g.tk tk).ownBlock≠some k->v'.ownBlock≠some k:=by
  intro k hk fK;rcases hc with ⟨h1,_,_⟩|⟨h1,_⟩ <;> rw[h1]
  ·exact fK
  ·intro he;cases he;omega
 let g':b8:=⟨λb=>if v'.ownBlock=some b then x'.Ow else g.lim b,g.ob,λt=>if t=tk then v' else g.tk t⟩
 have zl:∀ b,v'.ownBlock=some b->g'.lim b=x'.Ow:=λb hb=>by show (if _ then _ else _)=_;rw[zab hb]
 have nP:∀ b,v'.ownBlock≠some b->g'.lim b=g.lim b:=λb hb=>by show (if _ then _ else _)=_;rw[zaa hb]
 have AM:g'.tk tk=v':=by show (if tk=tk then v' else _)=_;rw[zab rfl]
 have xK:∀ t,t≠tk->g'.tk t=g.tk t:=λt ht=>by show (if t=tk then v' else _)=_;rw[zaa ht]
 have Cw:∀ k,k<base->(g.tk tk).ownBlock≠some k:=λk hk he=>by have:=(cT k he).1;omega
 have pb:Below base w w':=⟨Pz.1,Pz.2.1,Pz.2.2,fg,λk hk=>oe k (zbo hk h.base) (Cw k hk)⟩;have hpubn:x.own=none->x.Ow<=x'.Ow:=by
  intro hx;obtain ⟨h1,_,h3,h4,_⟩:=Vr hx;rw[u6 hx,u6 h1,h3];exact zcw _ h4
 have hzero:x.own≠none->x.Ow=0:=λhx=>by cases ho:x.own with|none=>exact absurd ho hx|some p=>exact Cv ho
 have Cx:N5 g.lim w g'.lim w':=by
  refine ⟨fg,λb hb=>?_,λb off hb ho=>?_⟩
  ·by_cases he:v'.ownBlock=some b
   ·rw[zl b he];have mc:(g.tk tk).ownBlock=some b:=by
     rcases hc with ⟨h1,_,_⟩|⟨h1,_⟩
     ·rw[←h1];exact he
     ·rw[h1] at he;cases he;omega
    rw[Gs b mc];by_cases hx:x.own=none
    ·exact hpubn hx
    ·rw[hzero hx];exact zfv _
   ·rw[nP b he];exact zaq _
  ·by_cases he:(g.tk tk).ownBlock=some b
   ·rcases hc with ⟨h1,_,_⟩|⟨_,h1⟩
    ·rw[Gs b he] at ho;by_cases hx:x.own=none
     ·rw[u6 hx] at ho;exact (Vr hx).2.2.2.2.2 b he (h1.trans he) off ho
     ·rw[hzero hx] at ho;omega
    ·exact h1.cell (p:=⟨b,off,none⟩) hb
   ·exact World.cell?_of_block (w:=w) (a:=⟨b,off,none⟩) (oe b hb he)
 have htail':∀ t y,t≠tk->(st.bG tk x').av[t]?=some y->st.av[t]?=some y:=λt y ht hy=>by simpa [St.bG,zbm,zcl ht] using hy
 have htailtk:∀ y,(st.bG tk x').av[tk]?=some y->y=x':=λy hy=>by
  have:x'=y:=by simpa [St.bG,zbm,hlen] using hy
  exact this.symm
 have hs:wo g w st g' w' (st.bG tk x'):=by
  refine ⟨Cx,λ_ _=>rfl,zaq _,λt e' Lv n' ht=>?_,by simp [St.bG],λt y bE mI hy ho=>?_⟩
  ·by_cases yI:t=tk
   ·subst yI;rw[fO] at ht;cases ht;obtain ⟨h1,h2,h3,h4,h5,_⟩:=Vr rfl;obtain ⟨e1,s1,n1,o1⟩:=x';simp only at h1 h2 h3 h4 h5;subst h1;subst h2;subst h3;exact ⟨n1,by simp [St.bG,zbm,hlen],h4,λhe=>by rw[AM];exact h5 he⟩
   ·exact ⟨n',by simp [St.bG,zbm,zcl yI,ht],zaq _,λ_=>xK t yI⟩
  ·by_cases yI:t=tk
   ·subst yI;have:=htailtk y hy;subst this;cases hx:x.own with
    | none=>rw[(Vr hx).1] at ho;cases ho
    | some rows =>
     obtain ⟨h1,h2,h3⟩:=hprv rows hx bE ho;exact ⟨x,rows,fO,hx,h1.symm,h2,λe=>by rw[AM];exact h3 e⟩
   ·exact ⟨y,bE,htail' t y yI hy,ho,rfl,zaq _,λ_=>xK t yI⟩
 have Cy:∀ o,st.live o->g.ob o<w.heap.size/\(g.tk tk).ownBlock≠some (g.ob o):=λo ho=>⟨(h.xJ ho).1,h.jD tk _ o fO ho⟩
 have U5:∀ o y,st.aS[o]?=some (.raw y)->base<=g'.ob o/\g'.lim (g'.ob o)=0/\w'.heap[g'.ob o]?=some y:=by
  intro o y hx;obtain ⟨h1,h2,h3⟩:=h.raw o y hx;obtain ⟨k1,k2⟩:=Cy o ⟨_,hx,by simp⟩;exact ⟨h1,(nP _ (u4 _ k1 k2)).trans h2,by show w'.heap[g.ob o]?=_;rw[oe _ k1 k2];exact h3⟩
 have jk:∀ t y,t≠tk->(st.bG tk x').av[t]?=some y->∀ b,(g.tk t).ownBlock=some b->b<w.heap.size/\(g.tk tk).ownBlock≠some b/\v'.ownBlock≠some b:=λt y yI hy b hb=>by
  have h1:=(h.xH (htail' t y yI hy) hb).2;have h2:=h.pJ t tk _ _ b yI (htail' t _ yI hy) fO hb;exact ⟨h1,h2,u4 b h1 h2⟩
 refine ⟨g',AM,zl,⟨zdn h.base fg,?_,?_,U5,h.ne,?_,?_,?_,h.Fg.below pb,?_⟩,⟨hs,pb,λb hb=>nP b (u4 b (zbo hb h.base) (Cw b hb)),λb hb hn=>?_,λb hb hw=>?_⟩⟩
 ·intro o ty cs hx;obtain ⟨h1,h2,vs,h3,h4,h5⟩:=h.row o ty cs hx;obtain ⟨k1,k2⟩:=Cy o ⟨_,hx,by simp⟩;exact ⟨h1,(nP _ (u4 _ k1 k2)).trans h2,vs,by show w'.heap[g.ob o]?=_;rw[oe _ k1 k2];exact h3,h4,λi c u hc hu=>⟨(h5 i c u hc hu).1.mono hs,(h5 i c u hc hu).2⟩⟩
 ·intro o es hx;obtain ⟨h1,ms,c,h3,h4,h5,h6⟩:=h.map o es hx;obtain ⟨k1,k2⟩:=Cy o ⟨_,hx,by simp⟩;exact ⟨h1,ms,c,by show w'.heap[g.ob o]?=_;rw[oe _ k1 k2];exact h3,h4,λi k y m a b=>⟨(h5 i k y m a b).1,(h5 i k y m a b).2.mono hs⟩,h6⟩
 ·intro t e' Lv n' ht;by_cases yI:t=tk
  ·subst yI;have:=htailtk _ ht;subst this;rw[AM];exact ⟨_,lP,λb hb=>(zl b hb).trans (u6 rfl)⟩
  ·obtain ⟨ys,k1,k2⟩:=h.tail t e' Lv n' (htail' t _ yI ht);rw[xK t yI];exact ⟨ys,fZ k1 λb hb=>oe b (jk t _ yI ht b hb).1 (jk t _ yI ht b hb).2.1,λb hb=>by rw[nP b (jk t _ yI ht b hb).2.2];exact k2 b hb⟩
 ·intro t t' y y' b fK ht tK hb;by_cases h1:t=tk
  ·subst h1;rw[AM] at hb;rw[xK t' (zcl fK)];intro mc;exact (jk t' _ (zcl fK) tK b mc).2.2 hb
  ·rw[xK t h1] at hb;by_cases h2:t'=tk
   ·subst h2;rw[AM];exact (jk t _ h1 ht b hb).2.2
   ·rw[xK t' h2];exact h.pJ t t' _ _ b fK (htail' t _ h1 ht) (htail' t' _ h2 tK) hb
 ·intro t y o ht ho;obtain ⟨k1,k2⟩:=Cy o ho;by_cases h1:t=tk
  ·subst h1;rw[AM];exact u4 _ k1 k2
  ·rw[xK t h1];exact h.jD t y o (htail' t _ h1 ht) ho
 ·intro t e' Lv n' bE ht;by_cases yI:t=tk
  ·subst yI;have:=htailtk _ ht;subst this;rw[AM];exact ⟨_,lP,λb hb=>(zl b hb).trans (Cv rfl),(od bE rfl).mono Cx⟩
  ·obtain ⟨ys,k1,k2,k3⟩:=h.own t e' Lv n' bE (htail' t _ yI ht);rw[xK t yI];exact ⟨ys,fZ k1 λb hb=>oe b (jk t _ yI ht b hb).1 (jk t _ yI ht b hb).2.1,λb hb=>by rw[nP b (jk t _ yI ht b hb).2.2];exact k2 b hb,k3.mono Cx⟩
 ·have fK:(g.tk tk).ownBlock≠some b:=λe=>hn (.inr ⟨tk,x,fO,e⟩)
  exact ⟨oe b hb fK,nP b (u4 b hb fK)⟩
 ·rcases hw with ⟨o,h1,h2⟩|⟨t,y,h1,h2⟩
  ·exact .inl ⟨o,h1,h2⟩
  ·by_cases yI:t=tk
   ·subst yI;rw[AM] at h2;rcases hc with ⟨c1,_,_⟩|⟨c1,_⟩
    ·exact .inr ⟨t,x,fO,by rw[←c1];exact h2⟩
    ·rw[c1] at h2;cases h2;omega
   ·rw[xK t yI] at h2;exact .inr ⟨t,y,htail' t y yI h1,h2⟩
theorem Inv.append (h:Inv g base w st) {tk e sz n m:Nat} (fO:st.av[tk]?=some ⟨e,sz,n,none⟩) {v':uB} {w':uC} {xs news:O uB} (lT:w.ownsRow base e sz (g.tk tk) n xs) (lP:w'.ownsRow base e sz v' (n+m) (xs++news))
  (Vp:m=0->v'=g.tk tk)
  (hc:(v'.ownBlock=(g.tk tk).ownBlock/\w'.heap.size=w.heap.size/\w.grownBy w' (g.tk tk).ownBlock)∨(v'.ownBlock=some w.heap.size/\Below w.heap.size w w')) :
  ∃ g',g'.tk tk=v'/\(∀ b,v'.ownBlock=some b->g'.lim b=(n+m)*sz)/\Inv g' base w' (st.bG tk ⟨e,sz,n+m,none⟩)/\Step base g w st g' w' (st.bG tk ⟨e,sz,n+m,none⟩):=by
 obtain ⟨g',h1,h2,h3,h4⟩:=h.Q1 (x':=⟨e,sz,n+m,none⟩) fO lP hc
  (λ_=>⟨rfl,rfl,rfl,Nat.le_add_right _ _,λhe=>Vp (by simp only at he;omega),λb he hv off ho=>by
   have hox:off<xs.length:=by rw[lT.1];exact ho
   have c1:=lT.cells he off xs[off] (zag hox);have c2:=lP.cells hv off xs[off] (by rw[zap hox];exact zag hox);rw[Addr.add_lit,zbu] at c1 c2;rw[c1,c2]⟩)
  (λrows hh=>by cases hh) (λrows hh=>by cases hh)
 exact ⟨g',h1,λb hb=>(h2 b hb).trans (u6 rfl),h3,h4⟩
theorem Inv.um (h:Inv g base w st) (x:iR) {v:uB} {w':uC} {xs:O uB} (lT:w'.ownsRow base x.e x.sz v x.n xs)
  (hc:(w'=w/\v.ownBlock=none)∨(v.ownBlock=some w.heap.size/\Below w.heap.size w w'))
  (od:∀ rows,x.own=some rows->dF g.lim w x.sz x.n rows xs) :
  ∃ g',g'.tk st.av.length=v/\(∀ b,v.ownBlock=some b->g'.lim b=x.Ow)/\(∀ b,b<w.heap.size->g'.lim b=g.lim b)/\Inv g' base w' (st.tok x)/\Step base g w st g' w' (st.tok x):=by
 have pb:Below w.heap.size w w':=by
  rcases hc with ⟨rfl,_⟩|⟨_,h1⟩
  ·exact .refl _ _
  ·exact h1
 have hvb:∀ b,v.ownBlock=some b->b=w.heap.size:=by
  intro b hb;rcases hc with ⟨_,h1⟩|⟨h1,_⟩
  ·rw[h1] at hb;cases hb
  ·rw[h1] at hb;cases hb;rfl
 let g':b8:=⟨λb=>if v.ownBlock=some b then x.Ow else g.lim b,g.ob,λt=>if t=st.av.length then v else g.tk t⟩
 have zl:∀ b,v.ownBlock=some b->g'.lim b=x.Ow:=λb hb=>by show (if _ then _ else _)=_;rw[zab hb]
 have nP:∀ b,b<w.heap.size->g'.lim b=g.lim b:=λb hb=>by
  show (if _ then _ else _)=_;rw[zaa];intro e;have:=hvb b e;omega
 have h1:g'.tk st.av.length=v:=by show (if _ then _ else _)=_;rw[zab rfl]
 have h2:∀ t,t≠st.av.length->g'.tk t=g.tk t:=λt ht=>by show (if _ then _ else _)=_;rw[zaa ht]
 have hold:∀ t y,(st.tok x).av[t]?=some y->(t<st.av.length/\st.av[t]?=some y)∨(t=st.av.length/\y=x):=by
  intro t y hx;have cT:=(zae.1 hx).1;simp [St.tok] at cT;by_cases ht:t<st.av.length
  ·exact .inl ⟨ht,by simpa [St.tok,zap ht] using hx⟩
  ·have:t=st.av.length:=by omega
   subst this;exact .inr ⟨rfl,by simpa [St.tok,zfb] using hx⟩
 have Cx:N5 g.lim w g'.lim w':=⟨pb.size,λb hb=>by rw[nP b hb];exact zaq _,λb off hb _=>pb.cell (p:=⟨b,off,none⟩) hb⟩
 have hs:wo g w st g' w' (st.tok x):=⟨Cx,λ_ _=>rfl,zaq _,λt e' Lv n ht=>by
  have cT:=(zae.1 ht).1;exact ⟨n,by simp [St.tok,zap cT,ht],zaq _,λ_=>h2 t (by omega)⟩,by simp [St.tok],wT λt y bE cT hy _=>⟨by
   rcases hold t y hy with ⟨_,hh⟩|⟨hh,_⟩
   ·exact hh
   ·omega,h2 t (by omega)⟩⟩
 have fK:∀ t y b,st.av[t]?=some y->(g.tk t).ownBlock=some b->v.ownBlock≠some b:=λt y b hy hb hv=>by
  have:=(h.xH hy hb).2;have:=hvb b hv;omega
 refine ⟨g',h1,zl,nP,⟨zdn h.base pb.size,λo ty cs hx=>?_,λo es hx=>?_,λo y hx=>?_,h.ne,?_,?_,?_,h.Fg.below (pb.mono h.base),?_⟩,⟨hs,pb.mono h.base,λb hb=>nP b (zbo hb h.base),λb hb _=>⟨pb.block b hb,nP b hb⟩,λb hb hw=>?_⟩⟩
 ·obtain ⟨k1,k2,vs,k3,k4,k5⟩:=h.row o ty cs hx;have cT:=(zay.1 k3).1;exact ⟨k1,(nP _ cT).trans k2,vs,(pb.block _ cT).trans k3,k4,λi c u hc hu=>⟨(k5 i c u hc hu).1.mono hs,(k5 i c u hc hu).2⟩⟩
 ·obtain ⟨k1,ms,c,k3,k4,k5,k6⟩:=h.map o es hx;have cT:=(zay.1 k3).1;exact ⟨k1,ms,c,(pb.block _ cT).trans k3,k4,λi k y m a b=>⟨(k5 i k y m a b).1,(k5 i k y m a b).2.mono hs⟩,k6⟩
 ·obtain ⟨k1,k2,k3⟩:=h.raw o y hx;have cT:=(zay.1 k3).1;exact ⟨k1,(nP _ cT).trans k2,(pb.block _ cT).trans k3⟩
 ·intro t e' Lv n ht;rcases hold t _ ht with ⟨cT,tK⟩|⟨rfl,he⟩
  ·rw[h2 t (by omega)];obtain ⟨ys,k1,k2⟩:=h.tail t e' Lv n tK;exact ⟨ys,fZ k1 λb hb=>pb.block b (k1.lt b hb).2,λb hb=>(nP b (k1.lt b hb).2).trans (k2 b hb)⟩
  ·subst he;rw[h1];exact ⟨xs,lT,λb hb=>(zl b hb).trans (u6 rfl)⟩
 ·intro t t' y y' b qT ht tK hb;rcases hold t _ ht with ⟨cT,k⟩|⟨rfl,he⟩
  ·rw[h2 t (by omega)] at hb;rcases hold t' _ tK with ⟨mI,k'⟩|⟨rfl,Ck⟩
   ·rw[h2 t' (by omega)];exact h.pJ t t' y y' b qT k k' hb
   ·rw[h1];exact fK t y b k hb
  ·rw[h1] at hb;rcases hold t' _ tK with ⟨mI,k'⟩|⟨rfl,Ck⟩
   ·rw[h2 t' (by omega)];intro mc;exact fK t' y' b k' mc hb
   ·exact absurd rfl qT
 ·intro t y o ht ho;rcases hold t _ ht with ⟨cT,k⟩|⟨rfl,he⟩
  ·rw[h2 t (by omega)];exact h.jD t y o k ho
  ·rw[h1];intro e;have:=hvb _ e;have:=(h.xJ ho).1;have e2:g'.ob o=g.ob o:=rfl;omega
 ·intro t e' Lv n bE ht;rcases hold t _ ht with ⟨cT,tK⟩|⟨rfl,he⟩
  ·rw[h2 t (by omega)];obtain ⟨ys,k1,k2,k3⟩:=h.own t e' Lv n bE tK;exact ⟨ys,fZ k1 λb hb=>pb.block b (k1.lt b hb).2,λb hb=>(nP b (k1.lt b hb).2).trans (k2 b hb),k3.mono Cx⟩
  ·subst he;rw[h1];exact ⟨xs,lT,λb hb=>(zl b hb).trans (Cv rfl),(od bE rfl).mono Cx⟩
 ·rcases hw with ⟨o,a1,a2⟩|⟨t,y,a1,a2⟩
  ·exact .inl ⟨o,a1,a2⟩
  ·rcases hold t _ a1 with ⟨cT,k⟩|⟨rfl,he⟩
   ·rw[h2 t (by omega)] at a2;exact .inr ⟨t,y,k,a2⟩
   ·rw[h1] at a2;have:=hvb b a2;omega
theorem Inv.JY (h:Inv g base w st) (e sz:Nat):∃ g',g'.tk st.av.length=.slice none 0 0/\Inv g' base w (st.tok ⟨e,sz,0,none⟩)/\Step base g w st g' w (st.tok ⟨e,sz,0,none⟩):=by
 obtain ⟨g',h1,_,_,h2,h3⟩:=h.um ⟨e,sz,0,none⟩ (World.ownsRow_nil w base _ _) (.inl ⟨rfl,rfl⟩) (λrows hh=>by cases hh);exact ⟨g',h1,h2,h3⟩
end append
section rules
variable {P:uG} {f:Ctx} {N:Nat} {S:Start} {Q:EV->St->Prop} {k:List Item} {base:Nat} {env:Env} {st:St} {ops rest:List Oper}
 {d:Option Tmp} {ty:uE} {pos:String} {after:uD Edge} {gd:Option (Nat×Bool)} {t t2 e:uE} {x y:uH}
theorem xL {w:uC} {ty sz:Nat} {inf:TypeInfo} {z:uB} {d2:TypeDesc} (ht:P.underlying t=some (.slice e)) (DM:P.underlying t2=some d2) (Im:d2=.string∨∃ e2,d2=.slice e2) (hi:P.info? e=some inf) (hz:inf.zero=some z) (fg:inf.size=sz)
  {u:uB} {m:Nat} {news:List uB} (hs:Src P w sz u m news) (Ot:m<=4611686018427387904) (hn:m*inf.bytes<=140737488355328) (A:Option Addr) :
  (m=0->(Builtin.append_ #[t,t2] ty #[.slice A 0 0,u]).run P w=.ok (.slice A 0 0) w) /\
  (m≠0->(Builtin.append_ #[t,t2] ty #[.slice A 0 0,u]).run P w=(Builtin.append_ #[t,t2] ty #[.slice none 0 0,u]).run P w):=by
 have hl:=hs.len;have hzer:(match d2 with|.int _=>true|_=>false)=false:=by rcases Im with rfl|⟨e2,rfl⟩ <;> rfl
 subst fg;constructor
 ·intro hm;subst hm;have N6:news=[]:=zba (by simpa using hs.size);subst N6;have hf:=hs.cells w rfl;rcases Im with rfl|⟨e2,rfl⟩ <;> cases A <;> simp [Builtin.append_,run_underlying ht,run_underlying DM,sizeOf,typeInfo,hi,hl,hf,storeCells]
 ·intro hm;have yJ:¬ (m<=0):=by omega
  have h1:∀ w',(Builtin.firstCells inf.size 0 (.slice A 0 0)).run P w'=.ok #[] w':=λw'=>by cases A <;> simp [Builtin.firstCells,loadCells,loadCellsFrom]
  have h2:∀ w',(Builtin.firstCells inf.size 0 (.slice none 0 0)).run P w'=.ok #[] w':=λw'=>by simp [Builtin.firstCells]
  have Ou:¬ (9223372036854775807<(m:Int)):=by omega
  have Ov:¬ (281474976710656<Builtin.nextslicecap m 0*inf.bytes):=by
   have:=growslice_fits (need:=m) (old:=0) (by omega) hn;omega
  rcases Im with rfl|⟨e2,rfl⟩ <;> simp [Builtin.append_,run_underlying ht,run_underlying DM,sizeOf,typeInfo,hi,hl,hm,h1,h2,Ou,Ov,Question.forced]
theorem LM {g:b8} {w:uC} {v u z:uB} {sz tk:Nat} {rows bE:O (O D)} {inf:TypeInfo} {d2:TypeDesc} (ht:P.underlying t=some (.slice e)) (DM:P.underlying t2=some d2) (Im:d2=.string∨∃ e2,d2=.slice e2)
  (hi:P.info? e=some inf) (hz:inf.zero=some z) (fg:inf.size=sz) (rU:z.cells.size=sz) (hinv:Inv g base w st) (Cz:bP g w st (.cm sz rows tk) v) (fO:st.av[tk]?=some ⟨e,sz,rows.length,none⟩) (I7:v=g.tk tk)
  (hn:(rows.length+bE.length)*inf.bytes<=140737488355328) (Ot:rows.length+bE.length<=4611686018427387904)
  {news:O uB} (tL:BM P g.lim w sz u bE news) :
  ∃ v' g' w',(Builtin.append_ #[t,t2] ty #[v,u]).run P w=.ok v' w'/\bP g' w' (st.bG tk ⟨e,sz,(rows++bE).length,none⟩) (.cm sz (rows++bE) tk) v'/\Inv g' base w' (st.bG tk ⟨e,sz,(rows++bE).length,none⟩) /\
   Step base g w st g' w' (st.bG tk ⟨e,sz,(rows++bE).length,none⟩):=by
 rw[show (rows++bE).length=rows.length+bE.length from zah];cases Cz with
 | cm _ _ _ _ e0 n0 hd Vs N6 Ox =>
  rw[fO] at Vs;cases Vs;obtain ⟨xs,lT,BI⟩:=hinv.tail tk e sz _ fO;obtain ⟨v',w',iS,lP,Vp,hc⟩:=mL (P:=P) (ty:=ty) w ht DM Im hi hz fg rU lT tL.src (by simp only[maxLen];omega) hn hinv.base;obtain ⟨g',yZ,Sz,eF,qL⟩:=hinv.append fO lT lP Vp hc;refine ⟨v',g',w',?_,?_,eF,qL⟩
  ·rw[I7];exact iS
  ·have hlen:tk<st.av.length:=(zae.1 fO).1;obtain ⟨A,c,vs,hvA,hvl,hA,Io,fN,U5,od⟩:=Sw hd;refine .cm sz _ tk v' e (rows.length+bE.length) (JX lP (by simp) ?_ (λb hb=>zga (Sz b hb).symm) ?_) (by simp [St.bG,zbm,hlen]) (by simp) (λ_=>.inl yZ.symm)
   ·intro row hr;rcases zbc.1 hr with h|h
    ·exact U5 row h
    ·exact tL.rows row h
   ·intro j u c' hu tH;rw[zeq] at tH;have Fl:=jT U5;have xG:=lT.1;by_cases hj:j<xs.length
    ·rw[zap hj] at hu;rw[zap (by omega)] at tH;have hjv:j<vs.length:=by omega
     have U7:vs[j]?=some u:=by
      have e1:=zag hjv;rcases hA with h0|⟨b,off,DN⟩
      ·rw[h0] at xG;omega
      ·have c1:=fN b off DN j _ e1;have Ct:(g.tk tk).ownBlock=some b/\off=0:=by
        rcases lT.2 with ⟨h1,h2⟩|⟨gb,cap,cur,h1,_⟩
        ·rw[h2] at xG;omega
        ·rw[←I7,hvA,DN] at h1;cases h1;exact ⟨by rw[←I7,hvA,DN];rfl,rfl⟩
       have c2:=lT.cells Ct.1 j u hu;rw[Addr.add_lit] at c2;rw[Ct.2,c2] at c1;cases c1;exact e1
     exact ⟨(od j u c' U7 tH).1.mono qL.dZ.df,(od j u c' U7 tH).2⟩
    ·rw[zax (by omega)] at hu;rw[zax (by omega)] at tH;have e1:rows.flatten.length=xs.length:=by omega
     rw[e1] at tH;exact ⟨(tL.rep _ u c' hu tH).1.mono qL.dZ.df,(tL.rep _ u c' hu tH).2⟩
theorem Gt {g:b8} {w:uC} {v u z:uB} {sz tk:Nat} {rows bE:O (O D)} {inf:TypeInfo} {d2:TypeDesc} (ht:P.underlying t=some (.slice e)) (DM:P.underlying t2=some d2) (Im:d2=.string∨∃ e2,d2=.slice e2)
  (hi:P.info? e=some inf) (hz:inf.zero=some z) (fg:inf.size=sz) (rU:z.cells.size=sz) (hinv:Inv g base w st) (Cz:bP g w st (.cm sz rows tk) v) (fO:st.av[tk]?=some ⟨e,sz,rows.length,none⟩)
  (hn:(rows.length+bE.length)*inf.bytes<=140737488355328) (Ot:rows.length+bE.length<=4611686018427387904)
  {news:O uB} (tL:BM P g.lim w sz u bE news) :
  ∃ v' g' w',(Builtin.append_ #[t,t2] ty #[v,u]).run P w=.ok v' w'/\bP g' w' (st.bG tk ⟨e,sz,(rows++bE).length,none⟩) (.cm sz (rows++bE) tk) v'/\Inv g' base w' (st.bG tk ⟨e,sz,(rows++bE).length,none⟩) /\
   Step base g w st g' w' (st.bG tk ⟨e,sz,(rows++bE).length,none⟩):=by
 by_cases I7:v=g.tk tk
 ·exact LM ht DM Im hi hz fg rU hinv Cz fO I7 hn Ot tL
 cases Cz with
 | cm _ _ _ _ e0 n0 hd Vs N6 Ox =>
  rw[fO] at Vs;cases Vs;obtain ⟨h0,A,hA⟩:=(Ox rfl).resolve_left I7;have SA:rows=[]:=zba h0;subst SA;simp only[zas,zbu] at hn Ot;obtain ⟨q1,q2⟩:=xL (P:=P) (ty:=ty) ht DM Im hi hz fg tL.src Ot hn A;have SB:st.av[tk]?=some ⟨e,sz,0,none⟩:=fO;have hlen:tk<st.av.length:=(zae.1 SB).1;by_cases hm:bE.length=0
  ·have hr1:bE=[]:=zba hm;subst hr1;have oe:st.bG tk ⟨e,sz,0,none⟩=st:=by
    unfold St.bG;have:st.av.set tk ⟨e,sz,0,none⟩=st.av:=by
     apply zck;intro i;rw[zbm];split
     ·rename_i hi';subst hi';rw[SB]
     ·rfl
    rw[this]
   simp only[zbp,zas];rw[oe];exact ⟨v,g,w,by rw[hA];exact q1 rfl,.cm sz [] tk v e 0 hd SB (zaq _) (λ_=>.inr ⟨rfl,A,hA⟩),hinv,.refl _ _ _ _⟩
  ·obtain ⟨xs,lT,_⟩:=hinv.tail tk e sz _ SB;have Vt:xs=[]:=zba (by rw[lT.1];simp);subst Vt;obtain ⟨v',w',iS,lP,_,hc⟩:=mL (P:=P) (ty:=ty) w ht DM Im hi hz fg rU (World.ownsRow_nil w base e sz) tL.src (by simp only[maxLen];omega) (by simpa using hn) hinv.base;have tH:v'.ownBlock=some w.heap.size/\Below w.heap.size w w':=by
    rcases hc with ⟨h1,_⟩|h
    ·exfalso;rcases lP.2 with ⟨_,h2⟩|⟨gb,cap,cur,h2,_⟩
     ·exact hm (by omega)
     ·rw[h2] at h1;cases h1
    ·exact h
   obtain ⟨g',yZ,Sz,eF,qL⟩:=hinv.append (xs:=[]) SB lT lP (λh=>absurd h hm) (.inr tH);have e1:([]++bE:O (O D)).length=0+bE.length:=by simp
   rw[e1];refine ⟨v',g',w',by rw[hA,q2 hm];exact iS,?_,eF,qL⟩;refine .cm sz _ tk v' e (0+bE.length) (JX lP (by simp) (λrow hr=>tL.rows row (by simpa using hr)) (λb hb=>zga (Sz b hb).symm) λj u c' hu tH=>?_) (by simp [St.bG,zbm,hlen]) (by simp) (λ_=>.inl yZ.symm);rw[zbt] at hu tH;exact ⟨(tL.rep _ u c' hu tH).1.mono qL.dZ.df,(tL.rep _ u c' hu tH).2⟩
theorem LN {sz tk:Nat} {rows bE:O (O D)} {inf:TypeInfo} {z:uB} {d2:TypeDesc} (ht:P.underlying t=some (.slice e)) (DM:P.underlying t2=some d2) (Im:d2=.string∨∃ e2,d2=.slice e2)
  (hi:P.info? e=some inf) (hz:inf.zero=some z) (fg:inf.size=sz) (rU:z.cells.size=sz) (hx:df env x=some (.cm sz rows tk)) (fO:st.av[tk]?=some ⟨e,sz,rows.length,none⟩)
  (hn:(rows.length+bE.length)*inf.bytes<=140737488355328) (Ot:rows.length+bE.length<=4611686018427387904)
  (wX:∀ (g:b8) (w:uC) (tmps:uD uB),eB g w st env tmps->∃ news,BM P g.lim w sz (Act.eval ⟨tmps,[]⟩ y) bE news) :
  zj P base env st ⟨d,.call ⟨.builtin .append,#[x,y],#[t,t2]⟩,ty,pos,after,gd⟩ (.cm sz (rows++bE) tk) (st.bG tk ⟨e,sz,(rows++bE).length,none⟩):=by
 intro g w tmps hinv he;obtain ⟨news,tL⟩:=wX g w tmps he;obtain ⟨v',g',w',iS,h1,h2,h3⟩:=Gt (ty:=ty) ht DM Im hi hz fg rU hinv (aR he hx) fO hn Ot tL;exact ⟨v',g',w',by simp [execOp,resolve,invoke,builtin,iS],h1,h2,h3⟩
theorem SC {sz tk:Nat} {rows bE:O (O D)} {inf:TypeInfo} {z:uB} {ev:EV} (ht:P.underlying t=some (.slice e)) (hi:P.info? e=some inf) (hz:inf.zero=some z) (fg:inf.size=sz) (rU:z.cells.size=sz)
  (hx:df env x=some (.cm sz rows tk)) (fO:st.av[tk]?=some ⟨e,sz,rows.length,none⟩) (hy:df env y=some ev) (hs:vP ev=some (sz,bE))
  (hn:(rows.length+bE.length)*inf.bytes<=140737488355328) (Ot:rows.length+bE.length<=4611686018427387904) :
  zj P base env st ⟨d,.call ⟨.builtin .append,#[x,y],#[t,t]⟩,ty,pos,after,gd⟩ (.cm sz (rows++bE) tk) (st.bG tk ⟨e,sz,(rows++bE).length,none⟩) :=
 LN ht ht (.inr ⟨e,rfl⟩) hi hz fg rU hx fO hn Ot λg w tmps he=>uR (s9 hs (aR he hy))
theorem Q2 {sz:Nat} {bE:O (O D)} {inf:TypeInfo} {z:uB} {ev e0:EV} (ht:P.underlying t=some (.slice e)) (hi:P.info? e=some inf) (hz:inf.zero=some z) (fg:inf.size=sz) (rU:z.cells.size=sz)
  (hx:df env x=some e0) (h0:e0=.d (.e0 sz)∨e0=.d (.ex (.slice none 0 0))) (hy:df env y=some ev) (hs:vP ev=some (sz,bE)) (hn:bE.length*inf.bytes<=140737488355328) (Ot:bE.length<=4611686018427387904) :
  BL P env st ⟨d,.call ⟨.builtin .append,#[x,y],#[t,t]⟩,ty,pos,after,gd⟩ (.d (.sl sz bE)):=by
 intro g base w tmps hinv he;have hdx:dY g.lim w (.e0 sz) (Act.eval ⟨tmps,[]⟩ x):=by
  rcases h0 with rfl|rfl
  ·cases aR he hx with|d _ _ h=>exact h
  ·rw[(aR he hx).bO];exact .e0 sz none (.inl rfl)
 obtain ⟨news,tL⟩:=uR (P:=P) (s9 hs (aR he hy));generalize hv:Act.eval ⟨tmps,[]⟩ x=v at hdx;generalize hu:Act.eval ⟨tmps,[]⟩ y=u at tL;cases hdx with
 | e0 _ A hA =>
  have hl:=tL.src.len;by_cases hm:bE.length=0
  ·have SA:bE=[]:=zba hm;subst SA;have N6:news=[]:=zba (by simpa using tL.src.size);subst N6;have hf:=tL.src.cells w rfl;refine .inl ⟨.slice A 0 0,g.lim,w,?_,.d _ _ (D.Py (.e0 sz A hA)),.refl _ _,λ_ _=>rfl⟩;subst fg;simp only[zas] at hl hf;cases A <;> simp [execOp,hv,hu,resolve,invoke,builtin,Builtin.append_,run_underlying ht,sizeOf,typeInfo,hi,hl,hf,storeCells]
  ·have Fl:=jT tL.rows;have U6:=grownCap_ge w bE.length 0 e;obtain ⟨dG,h1,h2,h3⟩:=PD (g:=g) (w:=w) (w0:=w.drew) (sz:=sz) (cap:=grownCap w bE.length 0 e) (rows:=bE) (vs:=news.toArray++Builtin.zeroCells z.cells (grownCap w bE.length 0 e-bE.length)) (e:=e) rfl rfl rfl rfl
    tL.rows U6 (by simp [tL.src.size]) (λi c v hc hvv=>by
     have hi':i<news.length:=by have:=(zae.1 hc).1;rw[tL.src.size];omega
     rw[zdq (by simpa using hi')] at hvv;exact tL.rep i v c (by simpa using hvv) hc)
   refine .inl ⟨_,dG,_,?_,.d _ _ h1,h2,h3⟩;have hf:=tL.src.cells w.drew rfl;subst fg;have Ou:¬ (9223372036854775807<(bE.length:Int)):=by omega
   have Ov:¬ (281474976710656<Builtin.nextslicecap bE.length 0*inf.bytes):=by
    have:=growslice_fits (need:=bE.length) (old:=0) (by omega) hn;omega
   have X5:(Builtin.firstCells inf.size 0 (.slice A 0 0)).run P w.drew=.ok #[] w.drew:=by cases A <;> simp [Builtin.firstCells,loadCells,loadCellsFrom]
   have yJ:bE≠[]:=λhh=>hm (by rw[hh];rfl);simp [execOp,hv,hu,resolve,invoke,builtin,Builtin.append_,run_underlying ht,sizeOf,typeInfo,zeroValue,hi,hz,hl,yJ,Ou,Ov,Question.forced,X5,hf,newRow,grownCap]
theorem bA.tok {todo:O Item} {i e sz:Nat} (hx:lookup i env=some (.d (.ex (.slice none 0 0)))) (h:bA P f N S Q todo ((i,.cm sz [] st.av.length)::env) (st.tok ⟨e,sz,0,none⟩)):bA P f N S Q todo env st:=by
 intro g w tmps hinv hh he hn;obtain ⟨g',h1,eF,hs⟩:=hinv.JY e sz;refine h g' w tmps eF (hh.step hs) ?_ hn;intro j y hy;unfold lookup at hy;cases hb:Nat.beq j i with
 | true =>
  rw[hb] at hy;simp only[Option.some.injEq] at hy;subst hy;have:=zaw hb;subst this;obtain ⟨v,k1,k2⟩:=he j _ hx;rw[k2.bO] at k1;exact ⟨_,k1,.cm sz [] _ _ e 0 (.nil sz _) (by simp [St.tok]) (zaq _) (λ_=>.inl h1.symm)⟩
 | false =>
  rw[hb] at hy;exact (he.mono hs.dZ) j y hy
theorem LO {sz:Nat} {bE:O (O D)} {inf:TypeInfo} {z:uB} {ev:EV} (ht:P.underlying t=some (.slice e)) (hi:P.info? e=some inf) (hz:inf.zero=some z) (fg:inf.size=sz) (rU:z.cells.size=sz)
  (hx:df env x=some (.d (.ex (.slice none 0 0)))) (hy:df env y=some ev) (hs:vP ev=some (sz,bE))
  (hn:bE.length*inf.bytes<=140737488355328) (Ot:bE.length<=4611686018427387904) :
  zj P base env st ⟨d,.call ⟨.builtin .append,#[x,y],#[t,t]⟩,ty,pos,after,gd⟩ (.cm sz bE st.av.length) ((st.tok ⟨e,sz,0,none⟩).bG st.av.length ⟨e,sz,bE.length,none⟩):=by
 intro g w tmps hinv he;obtain ⟨g1,k1,k2,k3⟩:=hinv.JY e sz;obtain ⟨news,tL⟩:=uR (P:=P) ((s9 hs (aR he hy)).mono k3.dZ.df);obtain ⟨v',g',w',iS,h1,h2,h3⟩:=Gt (ty:=ty) (rows:=[]) ht ht (.inr ⟨e,rfl⟩) hi hz fg rU k2 (.cm sz [] st.av.length (.slice none 0 0) e 0 (.nil sz _) (by simp [St.tok]) (zaq _) (λ_=>.inl k1.symm)) (by simp [St.tok]) (by simpa using hn) (by simpa using Ot) tL;exact ⟨v',g',w',by simp [execOp,(aR he hx).bO,resolve,invoke,builtin,iS],by simpa using h1,by simpa using h2,by simpa using k3.trans h3⟩
end rules
def lay (cells new:uD uB) (off:Nat):uD uB:=new.zipIdx.foldl (λcs (c,j)=>cs.setIfInBounds (off+j) c) cells
theorem LP (off:Nat):∀ (l:O uB) (k:Nat) (cells:uD uB),((l.zipIdx k).foldl (λ(cs:uD uB) (p:uB×Nat)=>cs.setIfInBounds (off+p.2) p.1) cells).size=cells.size /\
  ∀ i,i<cells.size->((l.zipIdx k).foldl (λ(cs:uD uB) (p:uB×Nat)=>cs.setIfInBounds (off+p.2) p.1) cells)[i]?=if off+k<=i/\i<off+k+l.length then l[i-(off+k)]? else cells[i]?
 | [],k,cells=>by simp;intro i hi h1 h2;omega
 | v::l,k,cells=>by
  obtain ⟨h1,h2⟩:=LP off l (k+1) (cells.setIfInBounds (off+k) v);rw[List.zipIdx_cons,List.foldl_cons];refine ⟨by rw[h1];simp,λi hi=>?_⟩
  rw[h2 i (by simpa using hi)];by_cases hc:off+(k+1)<=i/\i<off+(k+1)+l.length
  ·rw[zab hc,zab (by simp;omega)];have:i-(off+k)=(i-(off+(k+1)))+1:=by omega
   rw[this,List.getElem?_cons_succ]
  ·rw[zaa hc];by_cases he:i=off+k
   ·subst he;rw[zab (by simp)];simp [hi]
   ·rw[zaa (by simp;omega)];simp [zcg,zcl he]
theorem PF (cells new:uD uB) (off:Nat) (h:off+new.size<=cells.size) :
  (lay cells new off).size=cells.size/\∀ i,i<cells.size->(lay cells new off)[i]?=if off<=i/\i<off+new.size then new[i-off]? else cells[i]?:=by
 have:=LP off new.toList 0 cells;unfold lay;rw[←Array.foldl_toList,Array.toList_zipIdx];simpa using this
def Gu (lim:Nat->Nat) (w:uC) (cs:List D) (vs:uD uB):Prop :=
 vs.size=cs.length/\∀ (i:Nat) c (u:uB),cs[i]?=some c->vs[i]?=some u->dY lim w c u/\u.oneCell'=true
def SD (cs:List D) (off:Nat) (new:List D):List D:=cs.take off++new++cs.drop (off+new.length)
theorem Gu.lay {lim:Nat->Nat} {w:uC} {cs new:O D} {vs us:uD uB} {off:Nat} (h:Gu lim w cs vs) (hn:Gu lim w new us) (hf:off+new.length<=cs.length):Gu lim w (SD cs off new) (lay vs us off):=by
 obtain ⟨h1,h2⟩:=PF vs us off (by rw[h.1,hn.1];exact hf);refine ⟨by rw[h1,h.1];simp [SD];omega,λi c u hc hu=>?_⟩
 have hi:i<vs.size:=by rw[←h1];exact (zay.1 hu).1
 rw[h2 i hi] at hu;unfold SD at hc;have Fj:=h.1;have Sc:=hn.1;by_cases hA:i<off
 ·rw[zaa (by omega)] at hu;rw[zar,zap (by simp;omega),zam,zab hA] at hc;exact h.2 i c u hc hu
 ·by_cases hB:i<off+new.length
  ·rw[zab (by omega)] at hu;rw[zar,zax (by simp;omega),zap (by simp;omega)] at hc;have e1:(cs.take off).length=off:=by simp;omega
   rw[e1] at hc;exact hn.2 _ c u hc hu
  ·rw[zaa (by omega)] at hu;rw[zax (by simp;omega)] at hc;have e1:(cs.take off++new).length=off+new.length:=by simp;omega
   rw[e1,zbd] at hc;have e2:off+new.length+(i-(off+new.length))=i:=by omega
   rw[e2] at hc;exact h.2 i c u hc hu
def cellsD:EV->Option (List D)
 | .d (.ex v)=>if v.oneCell' then some [.ex v] else none
 | .d (.agg cs)=>some cs
 | .d (.sl sz rows)=>some [.sl sz rows]
 | .d (.ro cs)=>some [.ro cs]
 | .d (.e0 sz)=>some [.e0 sz]
 | .cm sz rows _=>some [.sl sz rows]
 | _=>none
theorem mR {g:b8} {w:uC} {st:St} {e:EV} {cs:O D} {v:uB} (h:cellsD e=some cs) (hv:bP g w st e v):Gu g.lim w cs v.cells:=by
 have key:∀ {e':EV} {Fk:O EV},ig e'=some Fk->Fk=cs.map EV.d->bP g w st e' v->Gu g.lim w cs v.cells:=by
  intro e' Fk hc hm BN;obtain ⟨k1,k2⟩:=r6 hc BN;refine ⟨by rw[k1,hm];simp,λi c u tH hu=>?_⟩
  have:=k2 i (.d c) u (by rw[hm,zbe,tH];rfl) hu;exact ⟨by cases this.1 with|d _ _ h=>exact h,this.2⟩
 cases e with
 | d x =>
  cases x with
  | ex u =>
   simp only[cellsD] at h;split at h
   ·rename_i h1;cases h;exact key (e':=.d (.ex u)) (by simp only[ig];rw[zab h1];rfl) rfl hv
   ·cases h
  | agg Fk=>cases h;exact key (e':=.d (.agg cs)) rfl rfl hv
  | dN=>cases h
  | sl sz rows=>cases h;exact key (e':=.d (.sl sz rows)) rfl rfl hv
  | ro Fk=>cases h;exact key (e':=.d (.ro Fk)) rfl rfl hv
  | e0 sz=>cases h;exact key (e':=.d (.e0 sz)) rfl rfl hv
  | any=>cases h
 | cm sz rows t =>
  cases h;cases hv with|cm _ _ _ _ _ _ hd=>exact key (e':=.d (.sl sz rows)) rfl rfl (.d _ _ hd)
 | ref=>cases h
 | Lq=>cases h
 | mp=>cases h
 | u0=>cases h
 | agg=>cases h
 | dN=>cases h
 | gd=>cases h
 | vc=>cases h
 | vp=>cases h
 | vw=>cases h
def Fo (place:Nat->Option (Nat×Nat)) (env:Env):List D->List (Nat×uH)->Option (List D)
 | cs,[]=>some cs
 | cs,(i,x)::l=>match place i,df env x with
  | some (off,size),some e=>match cellsD e with
   | some new=>match Nat.beq new.length size,Nat.ble (off+size) cs.length with
    | true,true=>Fo place env (SD cs off new) l
    | _,_=>none
   | none=>none
  | _,_=>none
theorem u7 {g:b8} {w:uC} {st:St} {env:Env} {tmps:uD uB} (he:eB g w st env tmps) {place:Nat->J (Nat×Nat)}:∀ (l:O (Nat×uH)) (cs:O D) (vs:uD uB) (r:O D),Fo place env cs l=some r->Gu g.lim w cs vs ->
  ∃ us,Instr.fill place vs (l.map λp=>(p.1,Act.eval ⟨tmps,[]⟩ p.2))=some us/\Gu g.lim w r us/\r.length=cs.length
 | [],cs,vs,r,h,hc=>by simp [Fo] at h;subst h;exact ⟨vs,rfl,hc,rfl⟩
 | (i,x)::l,cs,vs,r,h,hc=>by
  unfold Fo at h;split at h
  ·rename_i off size e hp hx;split at h
   ·rename_i new hn;split at h
    ·rename_i Gq Gr;have h1:=zaw Gq;have h2:=zaf Gr;have hcn:=mR hn (aR he hx);have X6:=hc.lay hcn (off:=off) (by omega);obtain ⟨us,k1,k2,k3⟩:=u7 he l _ _ r h X6;refine ⟨us,?_,k2,by rw[k3];simp [SD];omega⟩;have hs:=hcn.1;have Fj:=hc.1;simp only[zao,Instr.fill,hp];rw[zaa (by simp;omega)];exact k1
    ·cases h
   ·cases h
  ·cases h
def LQ (P:uG) (t:uE):Nat:=match P.info? t with
 | some i=>i.size
 | none=>0
def placeOf (P:uG) (fs:uD Field) (i:Nat):Option (Nat×Nat):=(fs[i]?).map λf=>(f.offset,LQ P f.type)
section rules
variable {P:uG} {f:Ctx} {N:Nat} {S:Start} {Q:EV->St->Prop} {k:List Item} {base:Nat} {env:Env} {st:St} {ops rest:List Oper}
 {d:Option Tmp} {ty:uE} {pos:String} {after:uD Edge} {gd:Option (Nat×Bool)} {t t2 e:uE} {x y:uH}
theorem u9 {inf:TypeInfo} {z:uB} (hi:P.info? t=some inf) (hz:inf.zero=some z) (w:uC):(zeroValue t).run P w=.ok z w:=by simp [zeroValue,typeInfo,hi,hz]
theorem EN (fs:O Field) (h:∀ f∈fs,(P.info? f.type).isSome) (w:uC):(fs.mapM (λf=>do pure (f.offset,←sizeOf f.type):Field->Sem (Nat×Nat))).run P w=.ok (fs.map λf=>(f.offset,LQ P f.type)) w:=by
 induction fs with
 | nil=>rfl
 | cons f fs ih =>
  obtain ⟨i,hi⟩:=Option.isSome_iff_exists.1 (h f (by simp));have ih':=ih (λg hg=>h g (by simp [hg]));simp only[List.mapM_cons,Sem.run_bind,qo hi,Result.andThen_ok,Sem.run_pure,ih',zao,LQ,hi]
theorem Vu {fs:uD Field} {inf:TypeInfo} {z:uB} {zs r:O D} {l:O (Nat×uH)} (ht:P.underlying t=some (.struct fs)) (hi:P.info? t=some inf) (hz:inf.zero=some z) (rU:cellsD (.d (cv z))=some zs)
  (Vv:fs.toList.all (λf=>(P.info? f.type).isSome)=true) (hl:Fo (placeOf P fs) env zs l=some r):aJ P env st ⟨d,.build t l.toArray,ty,pos,after,gd⟩ (.d (.agg r)):=by
 intro g base w tmps hinv he;have BK:=mR (g:=g) (w:=w) (st:=st) rU (.d _ _ (rY _ _ z));obtain ⟨us,h1,h2,h3⟩:=u7 he l zs z.cells r hl BK;refine ⟨.agg us,.d _ _ (.agg r us h2.1 (λi u hu=>?_) λi c u hc hu=>(h2.2 i c u hc hu).1),λw' hb=>?_⟩
 ·have hi':i<r.length:=by rw[←h2.1];exact (zay.1 hu).1
  exact (h2.2 i _ u (zag hi') hu).2
 ·have PG:(fs.mapM (λf=>do pure (f.offset,←sizeOf f.type):Field->Sem (Nat×Nat))).run P w'=.ok (fs.toList.map λf=>(f.offset,LQ P f.type)).toArray w':=by
   rw[←Array.toArray_toList (xs:=fs),zfs];simp only[Sem.run_map,EN (P:=P) fs.toList (λf hf=>zbf.1 Vv f hf) w',Result.andThen_ok]
  have Oy:(λi:Nat=>((fs.toList.map λf=>(f.offset,LQ P f.type)).toArray)[i]?)=placeOf P fs:=by
   funext i;simp [placeOf]
  simp only[execOp,Instr.build,Sem.run_bind,u9 hi hz,Result.andThen_ok,run_underlying ht,PG,zeo];rw[Oy];simp [h1]
theorem CA {len sz:Nat} {inf:TypeInfo} {z:uB} {zs:O D} {rows:O (O D)} {l:O (Nat×uH)} (ht:P.underlying t=some (.slice e)) (hi:P.info? e=some inf) (gq:inf.size=sz) (hz:inf.zero=some z) (rU:z.cells.size=sz)
  (hlen:0<len) (zm:len*sz<=16777216) (EO:(List.replicate len zs).flatten.length=len*sz) (PH:cellsD (.d (cv z))=some zs)
  (hl:Fo (λi=>some (i*sz,sz)) env (List.replicate len zs).flatten l=some rows.flatten) (hr:rows.all (λr=>Nat.beq r.length sz)=true) (hn:rows.length=len) (N7:0<sz) :
  BL P env st ⟨d,.buildSlice t len l.toArray,ty,pos,after,gd⟩ (.d (.sl sz rows)):=by
 intro g base w tmps hinv he;have BK:=mR (g:=g) (w:=w) (st:=st) PH (.d _ _ (rY _ _ z));have Sd:zs.length=sz:=by rw[←BK.1,rU]
 have kS:∀ row∈rows,row.length=sz:=by
  intro row hm;rw[zbf] at hr;exact zaw (hr row hm)
 have tJ:Gu g.lim w (List.replicate len zs).flatten ((Array.range (len*sz)).map (z.cells[· % z.cells.size]!)):=by
  refine ⟨by simp [EO],λi c u hc hu=>?_⟩;have qU:i<len*sz:=by rw[←EO];exact (zae.1 hc).1
  have zn:i % sz<sz:=zen _ N7;have hdiv:i / sz<len:=zdx (by rw[zdr];exact qU);have Oo:i=i / sz*sz+i % sz:=by rw[zdr];exact (zew i sz).symm
  have hf:=mg (rows:=List.replicate len zs) (sz:=sz) (i:=i / sz) (j:=i % sz) (row:=zs) (c:=zs[i % sz]'(by omega)) (by intro row hm;rw[List.eq_of_mem_replicate hm];exact Sd) (by simp [List.getElem?_replicate,hdiv]) (zag (by omega));rw[←Oo,hc] at hf;have X7:zs[i % sz]?=some c:=by cases hf;exact zag (by omega)
  have huz:z.cells[i % sz]?=some u:=by
   have mI:i % sz<z.cells.size:=by omega
   have:((Array.range (len*sz)).map (z.cells[· % z.cells.size]!))[i]?=some (z.cells[i % z.cells.size]!):=by simp [qU]
   rw[this] at hu;cases hu;rw[rU,zeb z.cells (i % sz) mI,zbi mI]
  exact BK.2 _ c u X7 huz
 obtain ⟨us,h1,h2,h3⟩:=u7 he l _ _ _ hl tJ;have Fl:=jT kS;obtain ⟨dG,k1,k2,k3⟩:=PD (g:=g) (w:=w) (w0:=w) (sz:=sz) (cap:=len) (rows:=rows) (vs:=us) (e:=e) rfl rfl rfl rfl kS (by omega) (by rw[h2.1,Fl];exact zaq _) h2.2;refine .inl ⟨.slice (some ⟨w.heap.size,0,none⟩) len len,dG,_,?_,.d _ _ (by rw[hn] at k1;exact k1),k2,k3⟩;subst gq;have I8:¬ (16777216<len*inf.size):=by omega
 have fK:¬ (len=0∨inf.size=0):=by omega
 have qT:¬ len*inf.size=0:=by
  intro h0;rcases Nat.mul_eq_zero.1 h0 with h|h <;> omega
 have Gp:Instr.fill (λi=>some (i*inf.size,inf.size)) (Array.map (λx=>z.cells[x % z.cells.size]!) (Array.range (len*inf.size))) (List.map (λp=>(p.1,Act.eval ⟨tmps,[]⟩ p.2)) l)=some us:=h1;simp [execOp,Instr.buildSlice,run_underlying ht,qo hi,I8,qT,u9 hi hz,Gp,newRow]
theorem du {inf:TypeInfo} (ht:P.underlying t=some (.slice e)) (hi:P.info? e=some inf) :
  BL P env st ⟨d,.buildSlice t 0 #[],ty,pos,after,gd⟩ (.d (.e0 inf.size)):=by
 intro g base w tmps hinv he;refine .inl ⟨.slice (some ⟨w.heap.size,0,none⟩) 0 0,λb=>g.lim b,w.alloc (.cells #[] e),?_,.d _ _ (.e0 _ _ (.inr ⟨_,_,rfl⟩)),(Below.refl _ w).alloc (zaq _) _,λ_ _=>rfl⟩;simp [execOp,Instr.buildSlice,run_underlying ht,qo hi,newRow,Instr.fill];rw[show Array.map (λ_=>(default:uB)) (Array.range 0)=#[] from by simp [Array.range_zero']]
end rules
def tmpsOf:List uH->List Tmp
 | []=>[]
 | .tmp t::l=>t::tmpsOf l
 | _::l=>tmpsOf l
def Gv:Op->List Tmp
 | .move x|.assign x|.box _ x|.load _ x|.nilCheck x|.unOp _ _ x|.convert _ _ x|.sliceToArrayPointer _ x|.makeInterface _ x
 | .makeChan _ x|.fieldAddr _ x _|.field _ x _|.range _ x|.next x _|.entry x|.typeAssert x _ _ _|.extract x _|.panic x|.recv _ x _=>tmpsOf [x]
 | .pick c a b=>tmpsOf [c,a,b]
 | .build _ ps|.buildSlice _ _ ps=>tmpsOf (ps.toList.map (·.2))
 | .store _ a v|.binOp _ _ a v _|.makeSlice _ a v|.indexAddr _ a v|.index _ a v|.lookup _ a v _|.mapEntry _ a v|.send a v=>tmpsOf [a,v]
 | .makeFunc _ first captured=>tmpsOf (first.toList++captured.toList)
 | .makeMap _ r=>tmpsOf r.toList
 | .slice _ x l h m=>tmpsOf (x::(l.toList++h.toList++m.toList))
 | .mapUpdate _ m k v|.entryStore _ m k v|.insert _ m k v=>tmpsOf [m,k,v]
 | .call c=>tmpsOf ((match c.callee with|.value f=>[f]|.invoke r _=>[r]|.builtin _=>[])++c.args.toList)
 | _=>[]
def LR (l:List Oper) (o:Oper):List Tmp:=match o.guard with
 | none=>Gv o.op
 | some (j,_)=>match (l[j]?).bind (·.dst) with
  | some t=>t::Gv o.op
  | none=>Gv o.op
def DO (env:Env):List Tmp->Env
 | []=>[]
 | t::ts=>match lookup t env with
  | some x=>(t,x)::DO env ts
  | none=>DO env ts
def pK (l:List Oper) (o:Oper) (env:Env):Env:=DO env (LR l o)
theorem va {env:Env} {t:Tmp} {y:EV}:∀ {ts:O Tmp},lookup t (DO env ts)=some y->t∈ts/\lookup t env=some y
 | [],h=>by simp [DO,lookup] at h
 | s::ts,h=>by
  unfold DO at h;split at h
  ·rename_i x hx;unfold lookup at h;cases hb:Nat.beq t s with
   | true =>
    rw[hb] at h;have:=zaw hb;subst this;exact ⟨by simp,hx.trans h⟩
   | false =>
    rw[hb] at h;obtain ⟨h1,h2⟩:=va h;exact ⟨by simp [h1],h2⟩
  ·obtain ⟨h1,h2⟩:=va h;exact ⟨by simp [h1],h2⟩
def wu (acc:List Nat):List Edge->Nat
 | []=>0
 | e::es=>(if Region.binds .any e then 2 ^ e.on ||| acc.getD e.on 0 else 0) ||| wu acc es
def eG:List Oper->List Nat->List Nat
 | [],acc=>acc
 | o::l,acc=>eG l (acc++[wu acc o.after.toList])
def wY (listed:uD Bool) (i m:Nat):Prop:=listed.getD i false=true->∀ j,m.testBit j=true->listed.getD j false=true
def xM (ops:List Oper) (listed:uD Bool):Prop:=∀ (i:Nat) o,ops[i]?=some o->listed.getD i false=true->∀ e∈o.after,Region.binds .any e=true->listed.getD e.on false=true
theorem vX {listed:uD Bool} {acc:O Nat} (h:∀ (k:Nat) m,acc[k]?=some m->wY listed k m):∀ (es:O Edge),(∀ e∈es,Region.binds .any e=true->listed.getD e.on false=true)->∀ j,(wu acc es).testBit j=true->listed.getD j false=true
 | [],_,j,hj=>by simp [wu] at hj
 | e::es,he,j,hj=>by
  unfold wu at hj;rw[Nat.testBit_or,zbv] at hj;rcases hj with hj|hj
  ·split at hj
   ·rename_i hb;have hon:=he e (by simp) hb;rw[Nat.testBit_or,zbv] at hj;rcases hj with hj|hj
    ·rw[Nat.testBit_two_pow] at hj;have:e.on=j:=by simpa using hj
     rw[←this];exact hon
    ·rw[zcf] at hj;cases hm:acc[e.on]? with
     | none=>rw[hm] at hj;simp at hj
     | some m=>rw[hm] at hj;exact h e.on m hm hon j hj
   ·simp at hj
  ·exact vX h es (λe' Ck=>he e' (by simp [Ck])) j hj
theorem xN {ops:O Oper} {listed:uD Bool} (hc:xM ops listed):∀ (l:O Oper) (acc:O Nat),(∀ j:Nat,l[j]?=ops[acc.length+j]?)->(∀ (k:Nat) m,acc[k]?=some m->wY listed k m) ->
  ∀ (k:Nat) m,(eG l acc)[k]?=some m->wY listed k m
 | [],acc,_,h=>h
 | o::l,acc,hl,h=>by
  unfold eG;refine xN hc l _ (λj=>by have:=hl (j+1);simpa [zco,zdo 1 j] using this) λk m hk=>?_;by_cases cT:k<acc.length
  ·rw[zap cT] at hk;exact h k m hk
  ·have LG:=(zae.1 hk).1;simp at LG;have:k=acc.length:=by omega
   subst this;have:m=wu acc o.after.toList:=by simpa [zfb] using hk
   subst this;intro JZ;have ho:ops[acc.length]?=some o:=by simpa using (hl 0).symm
   exact vX h _ (λe he hb=>hc _ o ho JZ e (by simpa using he) hb)
theorem xO {ops:O Oper} {listed:uD Bool} (hc:xM ops listed) {i:Nat} {o:Oper} (ho:ops[i]?=some o) (hr:∀ e∈o.after,Region.binds .any e=true->listed.getD e.on false=true) :
  ∀ j,((eG ops []).getD i 0).testBit j=true->listed.getD j false=true:=by
 -- list it: the greater set is closed,too,but for i itself: go by the mask's own making
 have key:∀ (l:O Oper) (acc:O Nat),(∀ j:Nat,l[j]?=ops[acc.length+j]?)->(∀ (k:Nat) m,acc[k]?=some m->wY listed k m)->(acc.length<=i) ->
   ∃ X8,(eG l acc)[i]?=some (wu X8 o.after.toList)/\∀ (k:Nat) m,X8[k]?=some m->wY listed k m:=by
  intro l
  induction l with
  | nil =>
   intro acc hl _ hle;have:=hl (i-acc.length);rw[show acc.length+(i-acc.length)=i by omega,ho] at this;simp at this
  | cons o' l ih =>
   intro acc hl hg hle;have I5:∀ j:Nat,l[j]?=ops[(acc++[wu acc o'.after.toList]).length+j]?:=λj=>by have:=hl (j+1);simpa [zco,zdo 1 j] using this
   have hg':∀ (k:Nat) m,(acc++[wu acc o'.after.toList])[k]?=some m->wY listed k m:=by
    intro k m hk;by_cases cT:k<acc.length
    ·rw[zap cT] at hk;exact hg k m hk
    ·have LG:=(zae.1 hk).1;simp at LG;have:k=acc.length:=by omega
     subst this;have:m=wu acc o'.after.toList:=by simpa [zfb] using hk
     subst this;intro JZ;have oc:ops[acc.length]?=some o':=by simpa using (hl 0).symm
     exact vX hg _ (λe he hb=>hc _ o' oc JZ e (by simpa using he) hb)
   by_cases he:acc.length=i
   ·subst he;have oc:o'=o:=by
     have:=hl 0;rw[zdp,ho] at this;simpa using this
    subst oc;have hm:∀ (l:O Oper) (acc:O Nat) (k:Nat) m,acc[k]?=some m->(eG l acc)[k]?=some m:=by
     intro l
     induction l with
     | nil=>intro acc k m h;exact h
     | cons o'' l ih' =>
      intro acc k m h;unfold eG;exact ih' _ k m (by rw[zap (zae.1 h).1];exact h)
    refine ⟨acc,?_,hg⟩;unfold eG;exact hm l _ _ _ (by simp)
   ·unfold eG;exact ih _ I5 hg' (by simp;omega)
 obtain ⟨X8,h1,h2⟩:=key ops [] (by simp) (by simp) (zfv _);intro j hj;rw[zcf,h1,zcj] at hj;exact vX h2 _ (λe he hb=>hr e (by simpa using he) hb) j hj
def qX (n:Nat) (q:Nat->Bool):Bool:=(List.range n).all q
theorem cZ {n:Nat} {q:Nat->Bool} (h:qX n q=true) {i:Nat} (hi:i<n):q i=true:=by
 unfold qX at h;rw[zbf] at h;exact h i (List.mem_range.2 hi)
def eW (l:List Oper) (i:Nat):Option Tmp:=(l[i]?).bind (·.dst)
def cP (l:List Oper) (p:Nat):Bool :=
 let ms:=eG l []
 qX p (λi=>match l[i]? with
  | some o=>(LR l o).all λt=>qX p λj=>i==j || eW l j != some t || (decide (j<i) && (ms.getD i 0).testBit j) || (decide (i<j) && (ms.getD j 0).testBit i)
  | none=>true) &&
 qX p (λi=>qX p λj=>i==j || (eW l i).isNone || eW l i != eW l j) &&
 qX l.length (λi=>decide (i<p) || qX i λj=>(ms.getD i 0).testBit j) &&
 qX l.length (λi=>match l[i]? with
  | some o=>o.after.toList.all λe=>!Region.binds .any e || decide (e.on<i)
  | none=>true) &&
 decide (p<=l.length)
def vY (P:uG) (l:List Oper) (env:Env) (st:St) (o:Oper) (x:EV):Prop :=
 (o.guard=none/\BL P env st o x) ∨
 ∃ (j:Nat) (want:Bool) (t:Tmp) (c:EV) (b:Bool) (y:EV) (env':Env),o.guard=some (j,want)/\(l[j]?).bind (·.dst)=some t/\lookup t env=some c/\Gm c want=some b/\x=.gd b y/\Cr b env env'/\(b=true->BL P env' st o y)
def ij:Env->List Oper->List EV->Env
 | env,o::os,x::xs=>ij (env.put o.dst x) os xs
 | env,_,_=>env
def CB (P:uG) (N:Nat) (l:List Oper) (st:St):List Oper->List EV->Env->Prop
 | [],[],_=>True
 | o::os,x::xs,env=>hZ N o.dst=true/\vY P l (pK l o env) st o x/\CB P N l st os xs (env.put o.dst x)
 | _,_,_=>False
theorem CB.length {P:uG} {N:Nat} {l:O Oper} {st:St}:∀ {os:O Oper} {xs:O EV} {env:Env},CB P N l st os xs env->xs.length=os.length
 | [],[],_,_=>rfl
 | o::os,x::xs,env,h=>by simp [CB.length h.2.2]
 | [],x::xs,_,h=>h.elim
 | o::os,[],_,h=>h.elim
theorem Oz {env:Env} {d:J Tmp} {x:EV} {s:Tmp}:lookup s (env.put d x)=if d=some s then some x else lookup s env:=by
 cases d with
 | none=>simp [Env.put]
 | some d =>
  simp only[Env.put,lookup];cases hb:Nat.beq s d with
  | true=>have:=zaw hb;subst this;simp
  | false =>
   have:¬ d=s:=by rintro rfl;rw[zfa] at hb;cases hb
   simp [this]
theorem lC {s:Tmp} {y:EV}:∀ {os:O Oper} {xs:O EV} {env:Env},xs.length=os.length->lookup s (ij env os xs)=some y ->
  (∃ (j:Nat) (o:Oper),os[j]?=some o/\xs[j]?=some y/\o.dst=some s)∨((∀ (j:Nat) (o:Oper),os[j]?=some o->o.dst≠some s)/\lookup s env=some y)
 | [],[],env,_,h=>.inr ⟨by simp,h⟩
 | o::os,x::xs,env,hl,h=>by
  rcases lC (os:=os) (xs:=xs) (env:=env.put o.dst x) (by simpa using hl) h with ⟨j,o',h1,h2,h3⟩|⟨h1,h2⟩
  ·exact .inl ⟨j+1,o',by simpa using h1,by simpa using h2,h3⟩
  ·rw[Oz] at h2;split at h2
   ·rename_i hd;cases h2;exact .inl ⟨0,o,rfl,rfl,hd⟩
   ·rename_i hd;refine .inr ⟨λj o' ho=>?_,h2⟩;cases j with
    | zero=>simp at ho;subst ho;exact hd
    | succ j=>exact h1 j o' (by simpa using ho)
 | [],_::_,_,hl,_=>by simp at hl
 | _::_,[],_,hl,_=>by simp at hl
theorem CB.get {P:uG} {N:Nat} {l:O Oper} {st:St}:∀ {os:O Oper} {xs:O EV} {env:Env} {i:Nat} {o:Oper},CB P N l st os xs env->os[i]?=some o ->
  ∃ x,xs[i]?=some x/\hZ N o.dst=true/\vY P l (pK l o (ij env (os.take i) (xs.take i))) st o x
 | o'::os,x::xs,env,0,o,h,ho=>by
  simp at ho;subst ho;exact ⟨x,rfl,h.1,by simpa [ij] using h.2.1⟩
 | o'::os,x::xs,env,i+1,o,h,ho=>by
  obtain ⟨y,h1,h2,h3⟩:=CB.get (i:=i) h.2.2 (by simpa using ho);exact ⟨y,by simpa using h1,h2,by simpa [ij] using h3⟩
 | [],xs,env,i,o,h,ho=>by simp at ho
 | o'::os,[],_,_,_,h,_=>h.elim
section drawn
variable {P:uG} {f:Ctx} {N:Nat} {S:Start} {Q:EV->St->Prop} {k:List Item}
theorem Ah {l:List Oper} {p:Nat} (Gw:∀ i,p<=i->i<l.length->∀ j,j<i->((eG l []).getD i 0).testBit j=true)
  (yK:∀ (i:Nat) o,l[i]?=some o->∀ e∈o.after,Region.binds .any e=true->e.on<i) :
  ∀ (fuel t m:Nat) (listed:uD Bool),p<=m->m<=l.length->l.length-m<=fuel->listed.size=l.length->(∀ i,i<l.length->listed.getD i true=decide (i<m)) ->
   Region.linearise.go .any l.toArray fuel t listed []=List.range' m (l.length-m)
 | fuel,t,m,listed,hp,hm,hf,hs,hl=>by
  have hD:∀ i,i<l.length->listed.getD i false=decide (i<m):=λi hi=>by
   rw[←hl i hi];simp [zau,hs,hi]
  have s7:xM l listed:=by
   intro i o ho SE e he hb;have hi:=(zae.1 ho).1;have:=yK i o ho e he hb;rw[hD i hi] at SE;rw[hD _ (by omega)];simp at SE ⊢;omega
  have X9:Region.ready .any l.toArray listed=if m<l.length then [m] else []:=by
   have qY:∀ i,i∈Region.ready .any l.toArray listed↔i=m/\m<l.length:=by
    intro i;rw[mem_ready];constructor
    ·rintro ⟨h0,o,ho,pL⟩;have oc:l[i]?=some o:=by simpa using ho
     have hi:=(zae.1 oc).1;rw[hl i hi] at h0;have him:m<=i:=by simpa using h0
     have vd:=xO s7 oc (λe he hb=>pL e he hb);by_cases he:i=m
     ·exact ⟨he,by omega⟩
     ·have h1:=vd m (Gw i (by omega) hi m (by omega));rw[hD m (by omega)] at h1;simp at h1
    ·rintro ⟨rfl,cT⟩;refine ⟨by rw[hl i cT];simp,l[i],by simp [cT],λe he hb=>?_⟩
     have:=yK i l[i] (zag cT) e he hb;rw[hD _ (by omega)];simpa using this
   have Xb:(Region.ready .any l.toArray listed).Nodup:=(List.nodup_range).filter _;split
   ·rename_i cT;have h1:∀ i∈Region.ready .any l.toArray listed,i=m:=λi hi=>((qY i).1 hi).1
    have h2:m∈Region.ready .any l.toArray listed:=(qY m).2 ⟨rfl,cT⟩;generalize Region.ready .any l.toArray listed=rs at *
    match rs with
    | []=>cases h2
    | [a]=>rw[h1 a (by simp)]
    | a::b::rs' =>
     have ha:=h1 a (by simp);have hb:=h1 b (by simp);simp [ha,hb] at Xb
   ·rename_i cT;exact List.eq_nil_iff_forall_not_mem.2 λi hi=>cT ((qY i).1 hi).2
  cases fuel with
  | zero =>
   have:l.length-m=0:=by omega
   rw[this];rfl
  | succ fuel =>
   have Ya:((List.range l.toArray.size).filter λi=>!listed.getD i true && ((l.toArray[i]?).map (·.after.all λe=>!Region.binds .any e || listed.getD e.on false)).getD false)=Region.ready .any l.toArray listed:=rfl
   simp only[Region.linearise.go,Ya,X9];by_cases cT:m<l.length
   ·rw[zab cT];simp only[zal,Nat.mod_one,List.getElem?_cons_zero];rw[linearise_go_acc,Ah Gw yK fuel _ (m+1) _ (by omega) cT (by omega) (by simpa using hs) ?_]
    ·have:l.length-m=(l.length-(m+1))+1:=by omega
     rw[this,List.range'_succ];rfl
    ·intro i hi;by_cases he:i=m
     ·subst he;simp [zau,hs,hi]
     ·rw[getD_set_ne true (zcl he),hl i hi];have:(i<m)=(i<m+1):=by apply propext;omega
      simp [this]
   ·rw[zaa cT];have:l.length-m=0:=by omega
    rw[this];rfl
theorem OA {l:O Oper} {p:Nat} {env:Env} {st:St} {xs:O EV} (hp:p<=l.length)
  (hC1:∀ i j t,i<p->j<p->i≠j->eW l i=some t->eW l j≠some t)
  (Xc:∀ (i:Nat) o,i<p->l[i]?=some o->∀ t∈LR l o,∀ j,j<p->j≠i->eW l j=some t->(j<i/\((eG l []).getD i 0).testBit j=true)∨(i<j/\((eG l []).getD j 0).testBit i=true))
  (Gw:∀ i,p<=i->i<l.length->∀ j,j<i->((eG l []).getD i 0).testBit j=true)
  (yK:∀ (i:Nat) o,l[i]?=some o->∀ e∈o.after,Region.binds .any e=true->e.on<i)
  (Lw:CB P N l st (l.take p) xs env) (DP:cr P f N S Q l (l.drop p) k (ij env (l.take p) xs) st) :
  ∀ (Gx fuel t:Nat) (listed:uD Bool) (g:b8) (w:uC) (tmps:uD uB),listed.size=l.length->xM l listed->(∀ i,p<=i->i<l.length->listed.getD i true=false) ->
   (((List.range p).filter λi=>!listed.getD i true).length=Gx)->Gx+(l.length-p)<=fuel->Inv g S.base w st->s5 S g w st->tmps.size=N ->
   (∀ (s:Tmp),(∀ (j:Nat) x,j<p->listed.getD j false=true->eW l j=some s->xs[j]?=some x->∃ v,tmps[s]?=some v/\bP g w st x v) /\
    ((∀ j,j<p->listed.getD j false=true->eW l j≠some s)->∀ y,lookup s env=some y->∃ v,tmps[s]?=some v/\bP g w st y v)) ->
   e9 P f (pD S Q) (.inRegion l.toArray (Region.linearise.go .any l.toArray fuel t listed [])::k) tmps w:=by
 have xG:=Lw.length;have hxl':xs.length=p:=by rw[xG];simp;omega
 intro Gx
 induction Gx with
 | zero =>
  intro fuel t listed g w tmps hs s7 SF CC LS hinv hh hN hJ;have pL:∀ i,i<p->listed.getD i true=true:=by
   intro i hi;have h0:=zba CC;have hn:i ∉ (List.range p).filter λi=>!listed.getD i true:=by rw[h0];simp
   rw[zcq,List.mem_range] at hn;cases hb:listed.getD i true with
   | true=>rfl
   | false=>exact absurd ⟨hi,by simp [hb]⟩ hn
  have hgo:=Ah Gw yK fuel t p listed (zaq _) hp (by omega) hs (λi hi=>by
   by_cases h:i<p
   ·rw[pL i h];simp [h]
   ·rw[SF i (by omega) hi];simp [h])
  rw[hgo];have zo:(l.drop p).length=l.length-p:=by simp
  rw[←zo];have PI:∀ i,i<p->listed.getD i false=true:=λi hi=>by
   have:=pL i hi;have cT:i<listed.size:=by omega
   simpa [zau,cT] using this
  refine DP p (λj=>by rw[zbd]) g w tmps hinv hh (λs y hy=>?_) hN;rcases lC xG hy with ⟨j,o,h1,h2,h3⟩|⟨h1,h2⟩
  ·have hj:j<p:=by have:=(zae.1 h2).1;omega
   have ho:l[j]?=some o:=by rw[zam] at h1;rw[zab hj] at h1;exact h1
   exact (hJ s).1 j y hj (PI j hj) (by simp [eW,ho,h3]) h2
  ·refine (hJ s).2 (λj hj _ hd=>?_) y h2;cases ho:l[j]? with
   | none=>simp [eW,ho] at hd
   | some o=>exact h1 j o (by rw[zam,zab hj];exact ho) (by simpa [eW,ho] using hd)
 | succ Gx ih =>
  intro fuel t listed g w tmps hs s7 SF CC LS hinv hh hN hJ;obtain ⟨fuel,rfl⟩:∃ n,fuel=n+1:=⟨fuel-1,by omega⟩
  -- an operation of the beginning that has not come up
  have hex:∃ i,i<p/\listed.getD i true=false:=by
   have:(List.range p).filter (λi=>!listed.getD i true)≠[]:=λh=>by rw[h] at CC;simp at CC
   obtain ⟨i,hi⟩:=zfl _ this;rw[zcq,List.mem_range] at hi;exact ⟨i,hi.1,by simpa using hi.2⟩
  have Q3:∀ i,i<l.length->listed.getD i false=listed.getD i true:=λi hi=>by
   have cT:i<listed.size:=by omega
   simp [zau,cT]
  have Ya:((List.range l.toArray.size).filter λi=>!listed.getD i true && ((l.toArray[i]?).map (·.after.all λe=>!Region.binds .any e || listed.getD e.on false)).getD false)=Region.ready .any l.toArray listed:=rfl
  -- the least such is ready
  have fK:Region.ready .any l.toArray listed≠[]:=by
   have SG:∀ n i,i<=n->i<p->listed.getD i true=false->∃ i,i<p/\listed.getD i true=false/\∀ j,j<i->listed.getD j true=true:=by
    intro n
    induction n with
    | zero=>intro i hi Q4 h;exact ⟨i,Q4,h,λj hj=>by omega⟩
    | succ n ihn =>
     intro i hi Q4 h;by_cases Ol:∃ j,j<i/\listed.getD j true=false
     ·obtain ⟨j,hj,Ip⟩:=Ol;exact ihn j (by omega) (by omega) Ip
     ·refine ⟨i,Q4,h,λj hj=>?_⟩;cases hb:listed.getD j true with
      | true=>rfl
      | false=>exact absurd ⟨j,hj,hb⟩ Ol
   obtain ⟨i0,h0,h1⟩:=hex;obtain ⟨i,J0,LU,pb⟩:=SG i0 i0 (zaq _) h0 h1;have qU:i<l.length:=by omega
   have:i∈Region.ready .any l.toArray listed:=by
    rw[mem_ready];refine ⟨LU,l[i],by simp [qU],λe he hb=>?_⟩;have cT:=yK i l[i] (zag qU) e he hb;rw[Q3 _ (by omega)];exact pb _ cT
   intro Io;rw[Io] at this;cases this
  simp only[Region.linearise.go,Ya];have hlen:0<(Region.ready .any l.toArray listed).length:=zdc.2 fK;have zn:=zen t hlen;generalize hi:(Region.ready .any l.toArray listed)[t % (Region.ready .any l.toArray listed).length]=i;have EP:(Region.ready .any l.toArray listed)[t % (Region.ready .any l.toArray listed).length]?=some i:=by rw[zag zn,hi]
  rw[EP];simp only[];rw[linearise_go_acc];have him:i∈Region.ready .any l.toArray listed:=zbj EP;obtain ⟨LU,o,ho,pL⟩:=mem_ready.1 him;have oc:l[i]?=some o:=by simpa using ho
  have qU:=(zae.1 oc).1;have vd:=xO s7 oc (λe he hb=>pL e he hb);have J0:i<p:=by
   rcases zgb i p with h|h
   ·exact h
   ·obtain ⟨i0,h0,h1⟩:=hex;have:=vd i0 (Gw i h qU i0 (by omega));rw[Q3 i0 (by omega),h1] at this;cases this
  obtain ⟨x,hx,hd,wZ⟩:=Lw.get (i:=i) (o:=o) (by rw[zam,zab J0];exact oc);have Xd:=xN s7 l [] (by simp) (by simp)
  -- what the operation looks at
  have he:eB g w st (pK l o (ij env ((l.take p).take i) (xs.take i))) tmps:=by
   intro s y hy;obtain ⟨Q5,Lr⟩:=va hy;rcases lC (by simp [xG]) Lr with ⟨j,o',h1,h2,h3⟩|⟨h1,h2⟩
   ·have nK:j<i:=by have:=(zae.1 h2).1;simp at this;omega
    have CD:l[j]?=some o':=by
     rw[zam,zab nK,zam,zab (by omega)] at h1;exact h1
    have vZ:eW l j=some s:=by simp [eW,CD,h3]
    rcases Xc i o J0 oc s Q5 j (by omega) (by omega) vZ with ⟨_,hb⟩|⟨cT,_⟩
    ·exact (hJ s).1 j y (by omega) (vd j hb) vZ (by rw[zam,zab nK] at h2;exact h2)
    ·omega
   ·refine (hJ s).2 (λj hj Ai vZ=>?_) y h2;by_cases nK:j=i
    ·subst nK;rw[Q3 j qU,LU] at Ai;cases Ai
    ·rcases Xc i o J0 oc s Q5 j hj nK vZ with ⟨cT,_⟩|⟨cT,hb⟩
     ·cases CD:l[j]? with
      | none=>simp [eW,CD] at vZ
      | some o'=>exact h1 j o' (by rw[zam,zab cT,zam,zab hj];exact CD) (by simpa [eW,CD] using vZ)
     ·have Ip:j<l.length:=by omega
      have hmj:(eG l [])[j]?=some ((eG l []).getD j 0):=by
       cases hm:(eG l [])[j]? with
       | none=>rw[zcf,hm] at hb;simp at hb
       | some m=>rw[zcf,hm];rfl
      have:=Xd j _ hmj Ai i hb;rw[Q3 i qU,LU] at this;cases this
  -- what remains behind it
  have LV:((List.range p).filter λj=>!(listed.setIfInBounds i true).getD j true).length=Gx:=by
   have zp:∀ j,(listed.setIfInBounds i true).getD j true=(listed.getD j true || decide (j=i)):=by
    intro j;by_cases nK:j=i
    ·subst nK;simp [zau,hs,qU]
    ·rw[getD_set_ne true (zcl nK)];simp [nK]
   have SH:((List.range p).filter λj=>!(listed.setIfInBounds i true).getD j true)=((List.range p).filter λj=>!listed.getD j true).filter λj=>!decide (j=i):=by
    rw[List.filter_filter];refine zek λj _=>?_
    rw[zp j];cases listed.getD j true <;> simp
   rw[SH];have Xb:((List.range p).filter λj=>!listed.getD j true).Nodup:=List.nodup_range.filter _;have qY:i∈(List.range p).filter λj=>!listed.getD j true:=by rw[zcq,List.mem_range];exact ⟨J0,by simp [LU]⟩
   have Gy:∀ (L:O Nat),L.Nodup->i∈L->(L.filter λj=>!decide (j=i)).length+1=L.length:=by
    intro L
    induction L with
    | nil=>intro _ h;cases h
    | cons a L ihL =>
     intro hn hm;rw[zcb] at hn;by_cases ha:a=i
     ·subst ha;have:(L.filter λj=>!decide (j=a))=L:=by
       rw[zdv];intro b hb;have:b≠a:=λe=>hn.1 (e▸hb)
       simp [this]
      rw[zbk];simp [this]
     ·have yJ:i∈L:=by
       rcases zan.1 hm with h|h
       ·exact absurd h.symm ha
       ·exact h
      rw[zbk];simp only[ha,zfm,zcm,zby,zad];rw[ihL hn.2 yJ]
   have:=Gy _ Xb qY;omega
  have SI:xM l (listed.setIfInBounds i true):=by
   intro j oj CD Ai e Ck hb;by_cases nK:j=i
   ·subst nK;rw[oc] at CD;cases CD;exact getD_set_true (pL e Ck hb)
   ·rw[getD_set_ne false (zcl nK)] at Ai;exact getD_set_true (s7 j oj CD Ai e Ck hb)
  have SJ:∀ j,p<=j->j<l.length->(listed.setIfInBounds i true).getD j true=false:=λj hj Ip=>by rw[getD_set_ne true (by omega)];exact SF j hj Ip
  -- the step
  have next:∀ (dG:Nat->Nat) (w':uC) (v:uB),Good g w st x dG w' v ->
    e9 P f (pD S Q) (.inRegion l.toArray (Region.linearise.go .any l.toArray fuel (t / (Region.ready .any l.toArray listed).length) (listed.setIfInBounds i true) [])::k) (Act.put ⟨tmps,[]⟩ o.dst v).tmps w':=by
   rintro dG w' v ⟨Cz,hb,hl⟩;obtain ⟨eF,mJ⟩:=hinv.grow (g':={ g with lim:=dG }) hb hl rfl rfl;refine ih fuel _ _ _ w' _ (by simpa using hs) SI SJ LV (by omega) eF (hh.step mJ) (by rw[js];exact hN) λs=>⟨λj y hj Ai vZ hy=>?_,λPJ y hy=>?_⟩
   ·by_cases nK:j=i
    ·subst nK;have LW:o.dst=some s:=by simpa [eW,oc] using vZ
     rw[hx] at hy;cases hy;rw[LW];have gq:s<tmps.size:=by
      rw[LW] at hd;have Yb:s+1<=N:=zaf hd;rw[hN];exact Yb
     exact ⟨v,by simp [Act.put,gq],Cz⟩
    ·rw[getD_set_ne false (zcl nK)] at Ai;obtain ⟨u,h1,h2⟩:=(hJ s).1 j y hj Ai vZ hy;have qT:o.dst≠some s:=λe=>hC1 j i s hj J0 nK vZ (by simp [eW,oc,e])
     refine ⟨u,?_,h2.mono mJ.dZ⟩;cases SK:o.dst with
     | none=>exact h1
     | some d =>
      have:d≠s:=λe=>qT (by rw[SK,e])
      simp [Act.put,zcg,this,h1]
   ·have qT:o.dst≠some s:=λe=>PJ i J0 (by simp [zau,hs,qU]) (by simp [eW,oc,e])
    obtain ⟨u,h1,h2⟩:=(hJ s).2 (λj hj Ai=>PJ j hj (by
     by_cases nK:j=i
     ·subst nK;simp [zau,hs,qU]
     ·rw[getD_set_ne false (zcl nK)];exact Ai)) y hy
    refine ⟨u,?_,h2.mono mJ.dZ⟩;cases SK:o.dst with
    | none=>exact h1
    | some d =>
     have:d≠s:=λe=>qT (by rw[SK,e])
     simp [Act.put,zcg,this,h1]
  have Ig:l.toArray[i]?=some o:=ho;show e9 P f (pD S Q) (.inRegion l.toArray (i::_)::k) tmps w;rcases wZ with ⟨hg,wZ⟩|⟨j,want,tt,c,b,y,env',hg,hj,hlk,hgc,rfl,hE,wZ⟩
  ·have hw:Region.wanted o (yielded l.toArray tmps)=true:=by simp [Region.wanted,hg]
   rcases wZ g S.base w tmps hinv he with ⟨v,dG,w',hr,zq⟩|⟨f',args,hr,hc⟩
   ·exact e9.value Ig hw hr (next dG w' v zq)
   ·exact e9.call Ig hw hr (hc.mono λe w' ⟨v,dG,h1,h2⟩=>⟨v,h1,next dG w' v h2⟩)
  ·obtain ⟨u,hu,hur⟩:=he tt c hlk;have hw:Region.wanted o (yielded l.toArray tmps)=b:=by
    rw[←uQ hgc hur];have Ls:((l.toArray)[j]?).bind (·.dst)=some tt:=by simpa using hj
    simp only[Region.wanted,hg,yielded,Ls,zac,hu];cases u <;> rfl
   cases b with
   | false=>exact e9.zi Ig hw (next g.lim w undef ⟨.gd _ _ _ (λ_=>rfl) (λh=>by cases h),.refl _ _,λ_ _=>rfl⟩)
   | true =>
    have wrap:∀ dG w' v,Good g w st y dG w' v->Good g w st (.gd true y) dG w' v:=λdG w' v ⟨a,b,c⟩=>⟨.gd _ _ _ (λh=>by cases h) (λ_=>a),b,c⟩
    rcases wZ rfl g S.base w tmps hinv (he.gd hE rfl) with ⟨v,dG,w',hr,zq⟩|⟨f',args,hr,hc⟩
    ·exact e9.value Ig hw hr (next dG w' v (wrap _ _ _ zq))
    ·exact e9.call Ig hw hr (hc.mono λe w' ⟨v,dG,h1,h2⟩=>⟨v,h1,next dG w' v (wrap _ _ _ h2)⟩)
def za (P:uG) (f:Ctx) (N:Nat) (S:Start) (Q:EV->St->Prop) (l:List Oper) (p:Nat) (os:List Oper) (k:List Item) (env:Env) (st:St):Prop :=
 ∃ xs,CB P N l st os xs env/\cr P f N S Q l (l.drop p) k (ij env os xs) st
variable {l:List Oper} {p:Nat} {os:List Oper} {env:Env} {st:St}
theorem za.nil (h:cr P f N S Q l (l.drop p) k env st):za P f N S Q l p [] k env st:=⟨[],trivial,h⟩
theorem za.g {d:J Tmp} {op:Op} {ty:uE} {pos:String} {after:uD Edge} {x:EV} (h:BL P (pK l ⟨d,op,ty,pos,after,none⟩ env) st ⟨d,op,ty,pos,after,none⟩ x) (hd:hZ N d=true)
  (hk:za P f N S Q l p os k (env.put d x) st):za P f N S Q l p (⟨d,op,ty,pos,after,none⟩::os) k env st:=by
 obtain ⟨xs,h1,h2⟩:=hk;exact ⟨x::xs,⟨hd,.inl ⟨rfl,h⟩,h1⟩,h2⟩
theorem za.q {d:J Tmp} {op:Op} {ty:uE} {pos:String} {after:uD Edge} {x:EV} (h:aJ P (pK l ⟨d,op,ty,pos,after,none⟩ env) st ⟨d,op,ty,pos,after,none⟩ x) (hd:hZ N d=true)
  (hk:za P f N S Q l p os k (env.put d x) st):za P f N S Q l p (⟨d,op,ty,pos,after,none⟩::os) k env st:=.g h.g hd hk
theorem bA.drawn {id:Nat} (p:Nat) (hm:P.follows .mixedOrders=true) (hB:cP l p=true) (h:za P f N S Q l p (l.take p) k env st):bA P f N S Q (.code (.region id l.toArray true)::k) env st:=by
 obtain ⟨xs,Lw,DP⟩:=h;simp only[cP,zat] at hB;obtain ⟨⟨⟨⟨U8,hB2⟩,hB3⟩,hB4⟩,Yc⟩:=hB;have hp:p<=l.length:=by simpa using Yc
 intro g w tmps hinv hh he hn;refine e9.BF λt=>?_
 have SL:Region.schedule (P.follows .mixedOrders) l.toArray t=Region.linearise .any l.toArray t:=by simp [Region.schedule,hm]
 rw[SL];have hb:Below w.heap.size w { w with drawn:=w.drawn+1 }:=(Below.refl _ w).drew;obtain ⟨eF,mJ⟩:=hinv.grow (g':=g) hb (λ_ _=>rfl) rfl rfl;unfold Region.linearise;refine OA (p:=p) (xs:=xs) hp ?_ ?_ ?_ ?_ Lw DP p _ t _ g _ tmps (by simp) ?_ ?_ ?_ ?_ eF (hh.step mJ) hn λs=>⟨λj x hj Ai=>?_,λ_ y hy=>?_⟩
 ·intro i j t hi hj PK hdi vZ;have:=cZ (cZ hB2 hi) hj;simp [PK,hdi,vZ] at this
 ·intro i o hi ho t ht j hj nK vZ;have h1:=cZ U8 hi;rw[ho] at h1;simp only[zbf] at h1;have h2:=cZ (h1 t ht) hj;simp only[vZ,zft,zdh,zbv,zat,zak,zec] at h2;rcases h2 with (h2|h2)|h2
  ·exact absurd h2.symm nK
  ·exact .inl h2
  ·exact .inr h2
 ·intro i hi qU j hj;have h1:=cZ hB3 qU;simp only[zbv,zak] at h1;rcases h1 with h1|h1
  ·omega
  ·exact cZ h1 hj
 ·intro i o ho e Ck mc;have qU:=(zae.1 ho).1;have h1:=cZ hB4 qU;rw[ho] at h1;simp only[zbf] at h1;have:=h1 e (by simpa using Ck);simpa [mc] using this
 ·intro i o ho SE;simp [zau,Array.getElem?_replicate] at SE;split at SE <;> simp_all
 ·intro i hi qU;simp [zau,Array.getElem?_replicate,qU]
 ·have:((List.range p).filter λi=>!(Array.replicate l.toArray.size false).getD i true)=List.range p:=by
   rw[zdv];intro i hi;have hi':=List.mem_range.1 hi;have:i<l.length:=by omega
   simp [zau,Array.getElem?_replicate,this]
  rw[this];simp
 ·simp;omega
 ·simp [zau,Array.getElem?_replicate] at Ai;split at Ai <;> simp_all
 ·exact (he.mono mJ.dZ) s y hy
end drawn
theorem Yd {n:Int} (h1:-9223372036854775808<=n) (h2:n<=9223372036854775807):IntKind.i64.wrap n=n:=by
 rw[IntKind.wrap_i64];omega
def qZ (n m:Nat):EV->Bool
 | .d _=>true
 | .ref o _=>Nat.blt o n
 | .Lq o _ _ _=>Nat.blt o n
 | .cm _ _ t=>Nat.blt t m
 | .mp o=>Nat.blt o n
 | .vc t _=>Nat.blt t m
 | .vp t _ _ _=>Nat.blt t m
 | .vw t _ _ _=>Nat.blt t m
 | .u0 _ cs=>Gz n m cs
 | .agg cs=>Gz n m cs
 | .dN cs=>Gz n m cs
 | .gd _ x=>qZ n m x
where
 Gz (n m:Nat):List EV->Bool
 | []=>true
 | x::l=>qZ n m x && Gz n m l
theorem jU {a b:Nat} (h:Nat.blt a b=true):a<b:=zaf h
theorem r7 {n m:Nat}:∀ {l:O EV},qZ.Gz n m l=true->∀ (i:Nat) c,l[i]?=some c->qZ n m c=true
 | [],_,i,c,h=>by simp at h
 | x::l,ho,0,c,h=>by
  simp only[qZ.Gz,zat] at ho;simp at h;subst h;exact ho.1
 | x::l,ho,i+1,c,h=>by
  simp only[qZ.Gz,zat] at ho;exact r7 ho.2 i c (by simpa using h)
theorem GA {g:b8} {w:uC} {st:St} {n m:Nat} {x:EV} {v:uB} (hn:n<=st.aS.length) (hm:m<=st.av.length) (ho:qZ n m x=true) (h:bP g w st x v):bP g w ⟨st.aS.take n,st.av.take m⟩ x v:=by
 have tK:∀ {t:Nat} {x:iR},(st.av.take m)[t]?=some x->st.av[t]?=some x:=fun {t x} hx=>by
  rw[zam] at hx;split at hx;exact hx;cases hx
 induction h with
 | d x v h=>exact .d _ _ h
 | ref o off h=>exact .ref _ _ (by have:=jU ho;simp;omega)
 | Lq o off l c h=>exact .Lq _ _ _ _ (by have:=jU ho;simp;omega)
 | cm sz rows t v e k hd ht hk hv =>
  have:=jU ho;exact .cm sz rows t v e k hd (by simp [zam,this,ht]) hk hv
 | mp o h=>exact .mp _ (by have:=jU ho;simp;omega)
 | u0 f cs vs hs h ih =>
  simp only[qZ] at ho;exact .u0 f cs vs hs λi c u hc hu=>ih i c u hc hu (r7 ho i c hc)
 | agg cs vs hs h1 h ih =>
  simp only[qZ] at ho;exact .agg cs vs hs h1 λi c u hc hu=>ih i c u hc hu (r7 ho i c hc)
 | dN cs vs hs h ih =>
  simp only[qZ] at ho;exact .dN cs vs hs λi c u hc hu=>ih i c u hc hu (r7 ho i c hc)
 | gd b x v h0 h ih =>
  simp only[qZ] at ho;exact .gd b x v h0 λhb=>ih hb ho
 | vc t k v ht hf h=>exact .vc t k v (by have:=jU ho;simp;omega) hf λx rows hx=>h x rows (tK hx)
 | vp t k i off v ht hf h=>exact .vp t k i off v (by have:=jU ho;simp;omega) hf λx rows hx=>h x rows (tK hx)
 | vw t k lo n v ht hf h=>exact .vw t k lo n v (by have:=jU ho;simp;omega) hf λx rows hx=>h x rows (tK hx)
def mh (n m:Nat):dU->Bool
 | .row _ cs=>cs.all (qZ n m)
 | .map es=>es.all λp=>qZ n m p.2
 | .raw _=>true
 | .gone=>true
def ER (n m:Nat):Env->Bool
 | []=>true
 | (_,x)::e=>qZ n m x && ER n m e
theorem DQ {n m i:Nat} {y:EV}:∀ {env:Env},ER n m env=true->lookup i env=some y->qZ n m y=true
 | [],_,h=>by simp [lookup] at h
 | (j,x)::e,ho,h=>by
  simp only[ER,zat] at ho;unfold lookup at h;cases hb:Nat.beq i j with
  | true=>rw[hb] at h;cases h;exact ho.1
  | false=>rw[hb] at h;exact DQ ho.2 h
section drop
variable {P:uG} {f:Ctx} {N:Nat} {S:Start} {Q:EV->St->Prop} {k:List Item} {todo:List Item} {env env':Env} {st st':St}
theorem Inv.drop {g:b8} {base n m:Nat} {w:uC} (h:Inv g base w st) (hn:n<=st.aS.length) (hm:m<=st.av.length) (ho:(st.aS.take n).all (mh n m)=true):Inv g base w ⟨st.aS.take n,st.av.take m⟩:=by
 have Ct:∀ o x,(st.aS.take n)[o]?=some x->st.aS[o]?=some x:=λo x hx=>by
  rw[zam] at hx;split at hx;exact hx;cases hx
 have fO:∀ t x,(st.av.take m)[t]?=some x->st.av[t]?=some x:=λt x hx=>by
  rw[zam] at hx;split at hx;exact hx;cases hx
 have uq:∀ o x,(st.aS.take n)[o]?=some x->mh n m x=true:=λo x hx=>zbf.1 ho x (zbj hx)
 have pT:∀ o,St.live ⟨st.aS.take n,st.av.take m⟩ o->st.live o:=λo ⟨x,hx,fK⟩=>⟨x,Ct o x hx,fK⟩
 refine ⟨h.base,λo ty cs hx=>?_,λo es hx=>?_,λo x hx=>h.raw o x (Ct o _ hx),λo o' fK h1 h2=>h.ne o o' fK (pT _ h1) (pT _ h2),λt e sz k hx=>h.tail t e sz k (fO t _ hx),λt t' x x' b fK h1 h2=>h.pJ t t' x x' b fK (fO t _ h1) (fO t' _ h2),λt x o h1 h2=>h.jD t x o (fO t _ h1) (pT _ h2),h.Fg,λt e sz k rows hx=>h.own t e sz k rows (fO t _ hx)⟩
 ·obtain ⟨h1,h2,vs,h3,h4,h5⟩:=h.row o ty cs (Ct o _ hx);have hc:=uq o _ hx;simp only[mh,zbf] at hc;exact ⟨h1,h2,vs,h3,h4,λi c u Cs hu=>⟨GA hn hm (hc c (zbj Cs)) (h5 i c u Cs hu).1,(h5 i c u Cs hu).2⟩⟩
 ·obtain ⟨h1,ms,c,h3,h4,h5,h6⟩:=h.map o es (Ct o _ hx);have hc:=uq o _ hx;simp only[mh,zbf] at hc;exact ⟨h1,ms,c,h3,h4,λi k x me a b=>⟨(h5 i k x me a b).1,GA hn hm (hc _ (zbj a)) (h5 i k x me a b).2⟩,h6⟩
theorem s5.drop {S:Start} {g:b8} {w:uC} {n m:Nat} (hh:s5 S g w st) (hS1:S.st.aS.length<=n) (hS2:S.st.av.length<=m) (hn:n<=st.aS.length) (hm:m<=st.av.length):s5 S g w ⟨st.aS.take n,st.av.take m⟩:=by
 refine ⟨⟨hh.dZ.df,hh.dZ.ob,by simp;omega,λt e sz k hk=>?_,by simp;omega,λt x' bE cT hx ho=>?_⟩,hh.below,hh.lim,hh.frame,λb hb hw=>hh.fresh b hb ?_⟩
 ·obtain ⟨k',h1,h2⟩:=hh.dZ.av t e sz k hk;have cT:=(zae.1 hk).1;exact ⟨k',by simp [zam,show t<m by omega,h1],h2⟩
 ·refine hh.dZ.own t x' bE cT ?_ ho;rw[zam] at hx;split at hx;exact hx;cases hx
 ·rcases hw with ⟨o,⟨x,hx,fK⟩,h2⟩|⟨t,x,hx,h2⟩
  ·refine .inl ⟨o,⟨x,?_,fK⟩,h2⟩;rw[zam] at hx;split at hx;exact hx;cases hx
  ·refine .inr ⟨t,x,?_,h2⟩;rw[zam] at hx;split at hx;exact hx;cases hx
theorem bA.to (n m:Nat) (hE:dz env env') (ho:st.aS.take n=st'.aS) (ht:st.av.take m=st'.av) (hn:Nat.ble n st.aS.length=true) (hm:Nat.ble m st.av.length=true) (uq:(ER n m env' && st'.aS.all (mh n m))=true)
  (hS1:S.st.aS.length<=n) (hS2:S.st.av.length<=m) (h:bA P f N S Q todo env' st'):bA P f N S Q todo env st:=by
 have hn':=zaf hn;have yJ:=zaf hm;simp only[zat] at uq;have mJ:st'=⟨st.aS.take n,st.av.take m⟩:=by cases st';simp at ho ht;rw[ho,ht]
 subst mJ;intro g w tmps hinv hh he hN;refine h g w tmps (hinv.drop hn' yJ uq.2) (hh.drop (by omega) (by omega) hn' yJ) ?_ hN
 ·intro i y hy;obtain ⟨v,h1,h2⟩:=(he.sub hE) i y hy;exact ⟨v,h1,GA hn' yJ (DQ uq.1 hy) h2⟩
theorem dz.nil:dz env []:=trivial
theorem dz.cons {i:Nat} {x y:EV} {t:Env} (h:lookup i env=some x) (hle:eC x y) (ht:dz env t):dz env ((i,y)::t):=⟨⟨x,h,hle⟩,ht⟩
theorem dz.k2 {env t:Env} {i0 i1:Nat} {x0 x1:EV} (h0:lookup i0 env=some x0) (h1:lookup i1 env=some x1) (u:dz env t):dz env ((i0,x0):: (i1,x1):: t):=.cons h0 (.ak _) (.cons h1 (.ak _) u)
theorem dz.k3 {env t:Env} {i0 i1 i2:Nat} {x0 x1 x2:EV} (h0:lookup i0 env=some x0) (h1:lookup i1 env=some x1) (h2:lookup i2 env=some x2) (u:dz env t):dz env ((i0,x0):: (i1,x1):: (i2,x2):: t):=.cons h0 (.ak _) (.cons h1 (.ak _) (.cons h2 (.ak _) u))
theorem dz.k4 {env t:Env} {i0 i1 i2 i3:Nat} {x0 x1 x2 x3:EV} (h0:lookup i0 env=some x0) (h1:lookup i1 env=some x1) (h2:lookup i2 env=some x2) (h3:lookup i3 env=some x3) (u:dz env t):dz env ((i0,x0):: (i1,x1):: (i2,x2):: (i3,x3):: t):=.cons h0 (.ak _) (.cons h1 (.ak _) (.cons h2 (.ak _) (.cons h3 (.ak _) u)))
theorem dz.k5 {env t:Env} {i0 i1 i2 i3 i4:Nat} {x0 x1 x2 x3 x4:EV} (h0:lookup i0 env=some x0) (h1:lookup i1 env=some x1) (h2:lookup i2 env=some x2) (h3:lookup i3 env=some x3) (h4:lookup i4 env=some x4) (u:dz env t):dz env ((i0,x0):: (i1,x1):: (i2,x2):: (i3,x3):: (i4,x4):: t):=.cons h0 (.ak _) (.cons h1 (.ak _) (.cons h2 (.ak _) (.cons h3 (.ak _) (.cons h4 (.ak _) u))))
theorem dz.k6 {env t:Env} {i0 i1 i2 i3 i4 i5:Nat} {x0 x1 x2 x3 x4 x5:EV} (h0:lookup i0 env=some x0) (h1:lookup i1 env=some x1) (h2:lookup i2 env=some x2) (h3:lookup i3 env=some x3) (h4:lookup i4 env=some x4) (h5:lookup i5 env=some x5) (u:dz env t):dz env ((i0,x0):: (i1,x1):: (i2,x2):: (i3,x3):: (i4,x4):: (i5,x5):: t):=.cons h0 (.ak _) (.cons h1 (.ak _) (.cons h2 (.ak _) (.cons h3 (.ak _) (.cons h4 (.ak _) (.cons h5 (.ak _) u)))))
theorem dz.k7 {env t:Env} {i0 i1 i2 i3 i4 i5 i6:Nat} {x0 x1 x2 x3 x4 x5 x6:EV} (h0:lookup i0 env=some x0) (h1:lookup i1 env=some x1) (h2:lookup i2 env=some x2) (h3:lookup i3 env=some x3) (h4:lookup i4 env=some x4) (h5:lookup i5 env=some x5) (h6:lookup i6 env=some x6) (u:dz env t):dz env ((i0,x0):: (i1,x1):: (i2,x2):: (i3,x3):: (i4,x4):: (i5,x5):: (i6,x6):: t):=.cons h0 (.ak _) (.cons h1 (.ak _) (.cons h2 (.ak _) (.cons h3 (.ak _) (.cons h4 (.ak _) (.cons h5 (.ak _) (.cons h6 (.ak _) u))))))
theorem dz.k8 {env t:Env} {i0 i1 i2 i3 i4 i5 i6 i7:Nat} {x0 x1 x2 x3 x4 x5 x6 x7:EV} (h0:lookup i0 env=some x0) (h1:lookup i1 env=some x1) (h2:lookup i2 env=some x2) (h3:lookup i3 env=some x3) (h4:lookup i4 env=some x4) (h5:lookup i5 env=some x5) (h6:lookup i6 env=some x6) (h7:lookup i7 env=some x7) (u:dz env t):dz env ((i0,x0):: (i1,x1):: (i2,x2):: (i3,x3):: (i4,x4):: (i5,x5):: (i6,x6):: (i7,x7):: t):=.cons h0 (.ak _) (.cons h1 (.ak _) (.cons h2 (.ak _) (.cons h3 (.ak _) (.cons h4 (.ak _) (.cons h5 (.ak _) (.cons h6 (.ak _) (.cons h7 (.ak _) u)))))))
theorem dz.k9 {env t:Env} {i0 i1 i2 i3 i4 i5 i6 i7 i8:Nat} {x0 x1 x2 x3 x4 x5 x6 x7 x8:EV} (h0:lookup i0 env=some x0) (h1:lookup i1 env=some x1) (h2:lookup i2 env=some x2) (h3:lookup i3 env=some x3) (h4:lookup i4 env=some x4) (h5:lookup i5 env=some x5) (h6:lookup i6 env=some x6) (h7:lookup i7 env=some x7) (h8:lookup i8 env=some x8) (u:dz env t):dz env ((i0,x0):: (i1,x1):: (i2,x2):: (i3,x3):: (i4,x4):: (i5,x5):: (i6,x6):: (i7,x7):: (i8,x8):: t):=.cons h0 (.ak _) (.cons h1 (.ak _) (.cons h2 (.ak _) (.cons h3 (.ak _) (.cons h4 (.ak _) (.cons h5 (.ak _) (.cons h6 (.ak _) (.cons h7 (.ak _) (.cons h8 (.ak _) u))))))))
theorem dz.Q6 {env t:Env} {i0 i1 i2 i3 i4 i5 i6 i7 i8 i9:Nat} {x0 x1 x2 x3 x4 x5 x6 x7 x8 x9:EV} (h0:lookup i0 env=some x0) (h1:lookup i1 env=some x1) (h2:lookup i2 env=some x2) (h3:lookup i3 env=some x3) (h4:lookup i4 env=some x4) (h5:lookup i5 env=some x5) (h6:lookup i6 env=some x6) (h7:lookup i7 env=some x7) (h8:lookup i8 env=some x8) (h9:lookup i9 env=some x9) (u:dz env t):dz env ((i0,x0):: (i1,x1):: (i2,x2):: (i3,x3):: (i4,x4):: (i5,x5):: (i6,x6):: (i7,x7):: (i8,x8):: (i9,x9):: t):=.cons h0 (.ak _) (.cons h1 (.ak _) (.cons h2 (.ak _) (.cons h3 (.ak _) (.cons h4 (.ak _) (.cons h5 (.ak _) (.cons h6 (.ak _) (.cons h7 (.ak _) (.cons h8 (.ak _) (.cons h9 (.ak _) u)))))))))
end drop
section enter
variable {P:uG} {f:FuncId} {fn:Func} {c:Code} {N:Nat}
theorem aE.bh {args:O D} {q:D->Prop} (hf:P.funcs[f]?=some fn) (hb:fn.body=some c) (hN:fn.ntmps=N) (hl:Nat.ble args.length N=true)
  (h:∀ S:Start,S.st=⟨[],[]⟩->bA P (.of f) N S (QD q) [.code c] (BG 0 (args.map EV.d)) ⟨[],[]⟩):aE P f args q :=
 .of (.enter hf hb hN (by simpa using hl) λS hS=>h S hS)
end enter
theorem Ye {α β:Type} {f:α->β} {l:O α} {n:Nat} (d:α) (h:n<l.length):(l.map f)[n]?=some (f (l.getD n d)):=by
 rw[zbe,zcf,zag h];rfl
section q
variable {P:uG} {base:Nat} {env:Env} {st:St} {d:Option Tmp} {ty:uE} {pos:String} {after:uD Edge} {gd:Option (Nat×Bool)} {t t2 e:uE} {x y z:uH}
section int
variable {a b:Int} (hx:df env x=some (.d (.ex (.int .i64 a)))) (hy:df env y=some (.d (.ex (.int .i64 b))))
include hx hy
theorem BO (h1:-9223372036854775808<=a+b) (h2:a+b<=9223372036854775807):aJ P env st ⟨d,.binOp .add t x y t2,ty,pos,after,gd⟩ (.d (.ex (.int .i64 (a+b)))):=q_add hx hy (Yd h1 h2)
theorem Yf (h1:-9223372036854775808<=a-b) (h2:a-b<=9223372036854775807):aJ P env st ⟨d,.binOp .sub t x y t2,ty,pos,after,gd⟩ (.d (.ex (.int .i64 (a-b)))):=q_sub hx hy (Yd h1 h2)
end int
theorem Yg {sz n:Nat} {rows:O (O D)} {ev:EV} {k:IntKind} {i:Int} {row:O D} {inf:TypeInfo} (ht:P.underlying t=some (.slice e)) (hi:P.info? e=some inf) (gq:inf.size=sz)
  (hx:df env x=some ev) (hs:vP ev=some (sz,rows)) (hy:df env y=some (.d (.ex (.int k i)))) (hn:i=n) (hr:rows[n]?=some row) :
  aJ P env st ⟨d,.indexAddr t x y,ty,pos,after,gd⟩ (.d (.ro row)):=λg base w tmps hinv he=>by
 subst hn;obtain ⟨b,off,c,hv,cT,hro⟩:=sl_ro (s9 hs (aR he hx)) hr;refine ⟨_,.d _ _ hro,λw' _=>?_⟩;have:=DI (d:=d) (ty:=ty) (pos:=pos) (after:=after) (gd:=gd) ht hi hv (aR he hy).bO (by omega) (by omega) w';rw[zcr,gq] at this;exact this
theorem SM {a:O uA} {k:IntKind} {i:Int} {n:Nat} (ht:P.underlying t=some .string) (hx:df env x=some (.d (.ex (.string ⟨a.toArray⟩)))) (hy:df env y=some (.d (.ex (.int k i)))) (hn:i=n) (cT:n<a.length) :
  aJ P env st ⟨d,.index t x y,ty,pos,after,gd⟩ (.d (.ex (.int .u8 ((a.getD n 0).toNat:Int)))):=by
 subst hn;exact Sn ht hx hy (by omega) (by rw[zcr,zcf,zag cT];rfl)
theorem Yh {sz:Nat} {rows:O (O D)} {ev:EV} (ht:P.underlying t=some (.slice e)) (hx:df env x=some ev) (hs:vP ev=some (sz,rows)) :
  aJ P env st ⟨d,.call ⟨.builtin .len,#[x],#[t]⟩,ty,pos,after,gd⟩ (.d (.ex (.int .i64 rows.length))):=r3 λg w tmps w' he=>by
 obtain ⟨A,c,hv⟩:=FQ (s9 hs (aR he hx));exact FP ht hv w'
theorem Q7 {cs:O D} {n:Nat} (h1:(P.underlying t).map lS=some false) (hs:(P.info? t).map (·.size)=some n) (hx:df env x=some (.d (.ro cs))) (hn:Nat.beq cs.length n=true) :
  aJ P env st ⟨d,.load t x,ty,pos,after,gd⟩ (.d (.agg cs)):=by
 have hn':=zaw hn;have:=PB (d:=d) (ty:=ty) (pos:=pos) (after:=after) (gd:=gd) (st:=st) h1 hs (zga hn'.symm) hx
 rwa [zbz (by omega)] at this
def placesOf (P:uG) (t:uE):Option (List (Nat×Nat)):=match P.underlying t with
 | some (.struct fs)=>if fs.toList.all (λf=>(P.info? f.type).isSome) then some (fs.toList.map λf=>(f.offset,LQ P f.type)) else none
 | _=>none
theorem bo {ps:O (Nat×Nat)} {inf:TypeInfo} {z:uB} {zs r:O D} {l:O (Nat×uH)} (hp:placesOf P t=some ps) (hi:P.info? t=some inf) (hz:inf.zero=some z) (rU:cellsD (.d (cv z))=some zs)
  (hl:Fo (λi=>ps[i]?) env zs l=some r):aJ P env st ⟨d,.build t l.toArray,ty,pos,after,gd⟩ (.d (.agg r)):=by
 unfold placesOf at hp;split at hp
 ·rename_i fs hu;split at hp
  ·rename_i pL;cases hp;refine Vu hu hi hz rU pL ?_;rw[←hl];congr 1;funext i;simp [placeOf]
  ·cases hp
 ·cases hp
theorem aM {sz:Nat} {inf:TypeInfo} {z:uB} {zs r:O D} {l:O (Nat×uH)} (ht:P.underlying t=some (.slice e)) (hi:P.info? e=some inf) (gq:inf.size=sz) (hz:inf.zero=some z) (rU:Nat.beq z.cells.size sz=true)
  (zm:Nat.ble sz 16777216=true) (N7:Nat.blt 0 sz=true) (PH:cellsD (.d (cv z))=some zs) (hl:Fo (λi=>some (i*sz,sz)) env zs l=some r) :
  BL P env st ⟨d,.buildSlice t 1 l.toArray,ty,pos,after,gd⟩ (.d (.sl sz [r])):=by
 have Iq:=zaw rU;have I8:=zaf zm;intro g base w tmps hinv he;have BK:=mR (g:=g) (w:=w) (st:=st) PH (.d _ _ (rY _ _ z));have Sd:zs.length=sz:=by rw[←BK.1,Iq]
 have SN:r.length=sz:=by
  obtain ⟨us,_,_,h3⟩:=u7 he l zs z.cells r hl BK;rw[h3,Sd]
 have Fl:(List.replicate 1 zs).flatten=zs:=by simp
 exact CA (len:=1) ht hi gq hz Iq (by omega) (by omega) (by rw[Fl,Sd];omega) PH (by rw[Fl,hl];simp) (by simp [SN]) rfl (jU N7) g base w tmps hinv he
end q
theorem Inv.Q8 {g:b8} {base:Nat} {w:uC} {st:St} (h:Inv g base w st) (e sz:Nat) :
  ∃ g',g'.tk st.av.length=.slice (some ⟨w.heap.size,0,none⟩) 0 0/\Inv g' base (w.alloc (.cells #[] e)) (st.tok ⟨e,sz,0,none⟩)/\Step base g w st g' (w.alloc (.cells #[] e)) (st.tok ⟨e,sz,0,none⟩):=by
 obtain ⟨g',h1,_,_,h2,h3⟩:=h.um ⟨e,sz,0,none⟩ (v:=.slice (some ⟨w.heap.size,0,none⟩) 0 0) (xs:=[]) ⟨by simp,.inr ⟨w.heap.size,0,#[],rfl,h.base,heap_alloc_new w _,zaq _,by simp [maxLen],by simp,by simp⟩⟩
  (.inr ⟨rfl,(Below.refl _ w).alloc (zaq _) _⟩) (λrows hh=>by cases hh)
 exact ⟨g',h1,h2,h3⟩
section rules
variable {P:uG} {base:Nat} {env:Env} {st:St} {d:Option Tmp} {ty:uE} {pos:String} {after:uD Edge} {gd:Option (Nat×Bool)} {t t2 e:uE} {x y z:uH}
theorem r8 {inf:TypeInfo} {sz:Nat} (ht:P.underlying t=some (.slice e)) (hi:P.info? e=some inf) (gq:inf.size=sz) :
  zj P base env st ⟨d,.buildSlice t 0 #[],ty,pos,after,gd⟩ (.cm sz [] st.av.length) (st.tok ⟨e,sz,0,none⟩):=by
 intro g w tmps hinv he;obtain ⟨g',h1,h2,h3⟩:=hinv.Q8 e sz;refine ⟨_,g',_,?_,.cm sz [] _ (.slice (some ⟨w.heap.size,0,none⟩) 0 0) e 0 (.sl sz [] _ 0 0 (zaq _) (by simp) (by simp) (by simp)) (by simp [St.tok]) (zaq _) (λ_=>.inl h1.symm),h2,h3⟩;simp [execOp,Instr.buildSlice,run_underlying ht,qo hi,newRow,Instr.fill];rw[show Array.map (λ_=>(default:uB)) (Array.range 0)=#[] from by simp [Array.range_zero']]
end rules
def nth {α:Type} [Inhabited α] (l:List α) (k:Nat):α:=l.getD k default
theorem og {α:Type} [Inhabited α] {l:O α} {k:Nat} (h:k<l.length):nth l k=l[k]:=by
 unfold nth;rw[zcf,zag h];rfl
theorem DR {α β:Type} [Inhabited α] {f:α->β} {l:O α} {n:Nat} (h:n<l.length):(l.map f)[n]?=some (f (nth l n)):=Ye default h
theorem ta {α:Type} [Inhabited α] {l:O α} {k:Nat} (h:k<l.length):l.take (k+1)=l.take k++[nth l k]:=by
 rw[og h,List.take_succ_eq_append_getElem h]
theorem oh {α:Type} [Inhabited α] {l:O α} {k:Nat} (h:k<l.length):l.drop k=nth l k::l.drop (k+1):=by
 rw[og h];exact List.drop_eq_getElem_cons h
abbrev cI (n:Int):D:=.ex (.int .i64 n)
abbrev cS (l:List uA):D:=.ex (.string ⟨l.toArray⟩)
abbrev cB (b:Bool):D:=.ex (.bool b)
def rI (n:Int):List D:=[.ex (.int .i64 n)]
def rS (l:List uA):List D:=[.ex (.string ⟨l.toArray⟩)]
abbrev ag {α:Type} (sz:Nat) (row:α->List D) (l:List α):D:=.sl sz (l.map row)
structure CE (P:uG) (key:uE) (κ:Type) [BEq κ] [LawfulBEq κ] where
 ke:κ->uB
 kd:TypeDesc
 und:P.underlying key=some kd
 same:∀ a b,Instr.sameNow kd (ke a) (ke b)=some (a==b)
 bits:∀ a,Instr.sameBits 10000 (ke a) (ke a)=true
 check:∀ a b w,(Instr.checkKey b 10000 key (ke a)).run P w=.ok () w
def Vw {P:uG} {key:uE} (h:P.underlying key=some (.int .i64)):CE P key Int where
 ke n:=.int .i64 n
 kd:=.int .i64
 und:=h
 same a b:=by simp [Instr.sameNow]
 bits a:=by simp [Instr.sameBits]
 check a b w:=by
  have:∀ n,(Instr.checkKey b (n+1) key (.int .i64 a)).run P w=.ok () w:=λn=>by simp [Instr.checkKey,run_underlying h]
  exact this 9999
def strKeys {P:uG} {key:uE} (h:P.underlying key=some .string):CE P key (List uA) where
 ke s:=.string ⟨s.toArray⟩
 kd:=.string
 und:=h
 same a b:=by
  simp only[Instr.sameNow];rw[beq_toListBytes];simp
 bits a:=by
  simp only[Instr.sameBits];rw[beq_toListBytes];simp
 check a b w:=by
  have:∀ n,(Instr.checkKey b (n+1) key (.string ⟨a.toArray⟩)).run P w=.ok () w:=λn=>by simp [Instr.checkKey,run_underlying h]
  exact this 9999
section alist
variable {κ α:Type} [BEq κ] [LawfulBEq κ]
def eI (l:List (κ×α)) (k:κ):Option Nat:=l.findIdx? λp=>k==p.1
def aC (l:List (κ×α)) (k:κ):Option α:=(l.find? λp=>k==p.1).map (·.2)
def dm (l:List (κ×α)) (k:κ) (v:α):List (κ×α):=match eI l k with
 | some j=>l.set j (k,v)
 | none=>l++[(k,v)]
theorem r9 (k:κ):aC ([]:O (κ×α)) k=none:=rfl
theorem oi (l:O (κ×α)) (k:κ):aC l k=(eI l k).bind λj=>(l[j]?).map (·.2):=by
 induction l with
 | nil=>rfl
 | cons p l ih =>
  unfold aC eI at *;rw[List.find?_cons,List.findIdx?_cons];by_cases h:k==p.1
  ·simp [h]
  ·simp only[h,zaz,zbw] at *;rw[ih];cases List.findIdx? (λp=>k==p.fst) l <;> simp
theorem dV (l:List (κ×α)) (k k':κ) (v:α):aC (dm l k v) k'=if k'==k then some v else aC l k':=by
 induction l with
 | nil =>
  unfold dm eI aC;by_cases h:k'==k <;> simp [List.find?_cons,h]
 | cons p l ih =>
  unfold dm eI at *;rw[List.findIdx?_cons];by_cases h:k==p.1
  ·simp only[h,zby,List.set_cons_zero];have hk:k=p.1:=eq_of_beq h;unfold aC;rw[List.find?_cons,List.find?_cons];by_cases h':k'==k
   ·simp [h']
   ·have:(k'==p.1)=false:=by rw[←hk];simpa using h'
    simp [h',this]
  ·simp only[h,zaz,zbw];have hcons:aC ((match Option.map (λx=>x+1) (List.findIdx? (λp=>k==p.1) l) with
     | some j=>(p::l).set j (k,v)
     | none=>(p::l)++[(k,v)])) k'=if k'==p.1 then some p.2 else aC (match List.findIdx? (λp=>k==p.1) l with
     | some j=>l.set j (k,v)
     | none=>l++[(k,v)]) k':=by
    cases List.findIdx? (λp=>k==p.1) l with
    | none =>
     simp only[Option.map_none,List.cons_append];unfold aC;rw[List.find?_cons];by_cases h2:k'==p.1 <;> simp [h2]
    | some j =>
     simp only[Option.map_some,List.set_cons_succ];unfold aC;rw[List.find?_cons];by_cases h2:k'==p.1 <;> simp [h2]
   refine hcons.trans ?_;rw[ih];by_cases h2:k'==p.1
   ·have hk:k'=p.1:=eq_of_beq h2;have h3:(k'==k)=false:=by
     rw[hk];rw[Bool.eq_false_iff];intro he;exact h (by rw[eq_of_beq he];simp)
    simp [h2,h3,aC,List.find?_cons]
   ·by_cases h3:k'==k
    ·simp [h2,h3]
    ·simp [h2,h3,aC,List.find?_cons]
end alist
def lD {κ α:Type} (ke:κ->uB) (val:α->D) (l:List (κ×α)):List (uB×EV):=l.map λp=>(ke p.1,.d (val p.2))
section find
variable {P:uG} {key:uE} {κ α:Type} [BEq κ] [LawfulBEq κ] (K:CE P key κ)
theorem GB (k:κ):∀ (l:O (κ×α)) (ms:O MapEntry) (i:Nat),ms.map (·.key)=l.map (λp=>K.ke p.1) ->
  Instr.findNow K.kd (K.ke k) ms i=some ((eI l k).bind λj=>(ms[j]?).map λm=>(i+j,m.val))
 | [],[],i,_=>rfl
 | [],m::ms,i,h=>by simp at h
 | p::l,[],i,h=>by simp at h
 | p::l,m::ms,i,h=>by
  simp only[zao,List.cons.injEq] at h;unfold Instr.findNow;rw[h.1,K.same];by_cases hk:k==p.1
  ·simp [hk,eI,List.findIdx?_cons]
  ·have Vn:(k==p.1)=false:=by simpa using hk
   rw[Vn];simp only[];rw[GB k l ms (i+1) h.2];unfold eI;rw[List.findIdx?_cons,Vn];simp only[zaz,zbw];cases List.findIdx? (λp=>k==p.1) l with
   | none=>rfl
   | some j =>
    simp only[zac,Option.map_some,List.getElem?_cons_succ];congr 2;funext m;congr 1;omega
theorem LX (k:κ) {l:O (κ×α)} {ms:O MapEntry} (h:ms.map (·.key)=l.map (λp=>K.ke p.1)) (w:uC) :
  (Instr.findKey key (K.ke k) ms).run P w=.ok ((eI l k).bind λj=>(ms[j]?).map λm=>(j,m.val)) w:=by
 simp only[Instr.findKey,Sem.run_bind,run_underlying K.und,Result.andThen_ok,GB K k l ms 0 h,Sem.run_pure,zbu]
end find
theorem zt {κ α:Type} [BEq κ] {l:O (κ×α)} {k:κ} {j:Nat} (h:eI l k=some j):j<l.length:=by
 unfold eI at h;rw[List.findIdx?_eq_some_iff_getElem] at h;exact h.1
section rules
variable {P:uG} {base:Nat} {env:Env} {st:St} {d:Option Tmp} {ty:uE} {pos:String} {after:uD Edge} {gd:Option (Nat×Bool)} {t t2 e key:uE} {x y z:uH}
 {κ α:Type} [BEq κ] [LawfulBEq κ]
theorem SO {g:b8} {w:uC} {st:St} {l:O (κ×α)} {ke:κ->uB} {val:α->D} {ms:uD MapEntry} (hl:ms.size=(lD ke val l).length)
  (h:∀ (i:Nat) k x (m:MapEntry),(lD ke val l)[i]?=some (k,x)->ms[i]?=some m->m.key=k/\bP g w st x m.val):ms.toList.map (·.key)=l.map λp=>ke p.1:=by
 apply zck;intro i;rw[zbe,zbe];have hlen:ms.size=l.length:=by simpa [lD] using hl
 by_cases hi:i<l.length
 ·have h1:ms[i]?=some (ms[i]'(by omega)):=zbi (by omega);have h2:l[i]?=some l[i]:=zag hi;have h3:=(h i (ke l[i].1) (.d (val l[i].2)) _ (by simp [lD,h2]) h1).1;rw[h2,zch,h1];simp [h3]
 ·rw[zbq (by simp;omega),zbq (by omega)];rfl
theorem gZ:zj P base env st ⟨d,.makeMap t none,ty,pos,after,gd⟩ (.mp st.aS.length) (st.add (.map [])):=by
 intro g w tmps hinv he;obtain ⟨g',hi,hs,Ct⟩:=hinv.newObj (.map []) (.map #[] 0) (λOn Fk e=>by cases e) (λes e=>by cases e;exact ⟨rfl,rfl⟩);refine ⟨.map (some w.heap.size),g',_,?_,?_,hi,hs⟩
 ·simp [execOp,Instr.makeMap]
 ·rw[←Ct];exact .mp _ (by simp [St.add])
end rules
inductive FK where
 | i (k:IntKind)
 | b
 | s
def Ir:Option TypeDesc->Option FK
 | some (.int k)=>some (.i k)
 | some .bool=>some .b
 | some .string=>some .s
 | _=>none
def sa:FK->uB->Bool
 | .i k,.int k' _=>decide (k=k')
 | .b,.bool _=>true
 | .s,.string _=>true
 | _,_=>false
def N8:uB->uB->Bool
 | .int _ a,.int _ b=>a==b
 | .bool a,.bool b=>a==b
 | .string a,.string b=>a.toList==b.toList
 | _,_=>false
def et:List uB->List uB->Bool
 | [],[]=>true
 | x::xs,y::ys=>N8 x y && et xs ys
 | _,_=>false
def fitAll:List FK->List uB->Bool
 | [],[]=>true
 | k::ks,v::vs=>sa k v && fitAll ks vs
 | _,_=>false
def tb (P:uG):Nat->List Field->Option (List FK)
 | _,[]=>some []
 | n,f::fs=>match Nat.beq f.offset n,decide (f.name ≠ "_"),Ir (P.underlying f.type),tb P (n+1) fs with
  | true,true,some k,some ks=>some (k::ks)
  | _,_,_,_=>none
def jd (P:uG) (t:uE):Option (List FK):=match P.underlying t with
 | some (.struct fs)=>if P.stoodInHeld t || P.eqGuardType P.depth t then none else tb P 0 fs.toList
 | _=>none
section eq
variable {P:uG}
theorem w5 {t:uE} {k:FK} (h:Ir (P.underlying t)=some k) {cs:uD uB} {off:Nat} {v:uB} (hv:cs[off]?=some v) (w:uC):(part t cs off).run P w=.ok v w:=by
 have h1:(P.underlying t).map lS=some true:=by
  cases hd:P.underlying t with
  | none=>rw[hd] at h;cases h
  | some Oi=>rw[hd] at h;cases Oi <;> first|rfl|cases h
 simp [part,wU h1,hv]
theorem zu {t:uE} {k:FK} (h:Ir (P.underlying t)=some k) {x y:uB} (hx:sa k x=true) (hy:sa k y=true) (n:Nat) (w:uC):(Op.equalIn (n+1) t x y).run P w=.ok (N8 x y) w:=by
 cases hd:P.underlying t with
 | none=>rw[hd] at h;cases h
 | some Oi =>
  rw[hd] at h;cases Oi <;> simp only[Ir,Option.some.injEq,reduceCtorEq] at h
  ·subst h;cases x <;> simp only[sa,zaz] at hx;cases y <;> simp only[sa,zaz] at hy;exact run_equalIn_bool' w n t _ _ hd
  ·subst h;cases x <;> simp only[sa,zaz] at hx;cases y <;> simp only[sa,zaz] at hy;have e1:=zcv hx;have e2:=zcv hy;rw[←e1,←e2];exact run_equalIn_int w n t _ _ _ _ hd
  ·subst h;cases x <;> simp only[sa,zaz] at hx;cases y <;> simp only[sa,zaz] at hy;exact run_equalIn_string w n t _ _ hd
theorem Ba (n:Nat) (w:uC):∀ (fs:List Field) (k:Nat) (ks:List FK) (xs ys:List uB) (X Y:uD uB),tb P k fs=some ks->fitAll ks xs=true->fitAll ks ys=true ->
  (∀ (j:Nat) v,xs[j]?=some v->X[k+j]?=some v)->(∀ (j:Nat) v,ys[j]?=some v->Y[k+j]?=some v)->(Op.eqFields (n+1) X Y fs).run P w=.ok (et xs ys) w
 | [],k,ks,xs,ys,X,Y,h,hx,hy,_,_=>by
  simp only[tb,Option.some.injEq] at h;subst h
  match xs,ys with
  | [],[]=>rfl
  | _::_,_=>cases hx
  | [],_::_=>cases hy
 | f::fs,k,ks,xs,ys,X,Y,h,hx,hy,hX,hY=>by
  unfold tb at h;split at h
  ·rename_i kk ks' h1 h2 h3 h4;simp only[Option.some.injEq] at h;subst h
   match xs,ys with
   | [],_=>cases hx
   | _::_,[]=>cases hy
   | x::xs,y::ys =>
    simp only[fitAll,zat] at hx hy;have ho:=zaw h1;have LY:f.name ≠ "_" := zcv h2;have px:=w5 h3 (cs:=X) (off:=f.offset) (hX 0 x rfl |> λh=>by rw[ho];simpa using h) w;have py:=w5 h3 (cs:=Y) (off:=f.offset) (hY 0 y rfl |> λh=>by rw[ho];simpa using h) w;have pe:=zu h3 hx.1 hy.1 n w;have ih:=Ba n w fs (k+1) ks' xs ys X Y h4 hx.2 hy.2 (λj v hv=>by have:=hX (j+1) v (by simpa using hv);rwa [show k+1+j=k+(j+1) by omega]) (λj v hv=>by have:=hY (j+1) v (by simpa using hv);rwa [show k+1+j=k+(j+1) by omega]);simp only[Op.eqFields,zab LY,Sem.run_bind,px,py,pe,Result.andThen_ok,Sem.run_ite,et];cases N8 x y
    ·rfl
    ·simpa using ih
  ·cases h
theorem J1 {t:uE} {ks:O FK} (h:jd P t=some ks) {xs ys:O uB} (hx:fitAll ks xs=true) (hy:fitAll ks ys=true) (w:uC) (op:BinOp) (x y:uH) :
  (eqGuard op t x y (.agg xs.toArray) (.agg ys.toArray)).run P w=.ok () w/\(Op.equalIn 10000 t (.agg xs.toArray) (.agg ys.toArray)).run P w=.ok (et xs ys) w:=by
 unfold jd at h;split at h
 ·rename_i fs hu;split at h
  ·cases h
  ·rename_i PJ;simp only[zbv,not_or,Bool.not_eq_true] at PJ;have Vv:P.fieldsOf t=fs:=by simp [Program.fieldsOf,hu]
   refine ⟨run_eqGuard_agg w op t x y _ _ PJ.2,?_⟩;rw[run_equalIn_struct w 9999 t _ _ (by rw[Vv];exact hu) PJ.1,Vv];exact Ba 9998 w fs.toList 0 ks xs ys _ _ h hx hy (λj v hv=>by simpa using hv) (λj v hv=>by simpa using hv)
 ·cases h
end eq
theorem xP {lim:Nat->Nat} {w:uC} {u v:uB} (h:dY lim w (.ex u) v):v=u:=by cases h;rfl
def U9:List D->Option (List uB)
 | []=>some []
 | .ex v::l=>match U9 l with
  | some r=>some (v::r)
  | none=>none
 | _::_=>none
theorem J2:∀ {l:O D} {vs:O uB},U9 l=some vs->l=vs.map D.ex
 | [],vs,h=>by simp [U9] at h;subst h;rfl
 | .ex v::l,vs,h=>by
  unfold U9 at h;split at h
  ·rename_i r hr;simp only[Option.some.injEq] at h;subst h;rw[J2 hr];rfl
  ·cases h
 | .agg _::l,vs,h=>by cases h
 | .dN _::l,vs,h=>by cases h
 | .sl _ _::l,vs,h=>by cases h
 | .ro _::l,vs,h=>by cases h
 | .e0 _::l,vs,h=>by cases h
 | .any::l,vs,h=>by cases h
theorem uS {lim:Nat->Nat} {w:uC} {cs:O D} {vs:O uB} {v:uB} (h:U9 cs=some vs) (hr:dY lim w (.agg cs) v):v=.agg vs.toArray:=by
 have hm:=J2 h;subst hm;cases hr with
 | agg _ us hs _ hc =>
  congr 1;apply Array.ext';apply zck;intro i;simp only[zcz] at hs;by_cases hi:i<vs.length
  ·have h1:us[i]?=some (us[i]'(by omega)):=zbi (by omega);have h2:=hc i (.ex vs[i]) _ (by rw[zbe,zag hi];rfl) h1;rw[zch,h1,zag hi,xP h2]
  ·rw[zbq (by simp;omega),zbq (by simp;omega)]
section rules
variable {P:uG} {f:Ctx} {N:Nat} {S:Start} {Q:EV->St->Prop} {k:List Item} {base:Nat} {env:Env} {st:St} {ops rest:List Oper} {d:Option Tmp} {ty:uE} {pos:String} {after:uD Edge} {gd:Option (Nat×Bool)} {t t2 e:uE} {x y z:uH}
section steq
variable {ks:List FK} {cs ds:List D} {xs ys:List uB} (hk:jd P t=some ks) (hx:df env x=some (.d (.agg cs))) (hy:df env y=some (.d (.agg ds))) (h1:U9 cs=some xs) (h2:U9 ds=some ys) (h3:fitAll ks xs=true) (h4:fitAll ks ys=true)
include hk hx hy h1 h2 h3 h4
theorem J3:aJ P env st ⟨d,.binOp .eql t x y t2,ty,pos,after,gd⟩ (.d (.ex (.bool (et xs ys)))):=r3 λg w tmps w' he=>by
 obtain ⟨k1,k2⟩:=J1 hk h3 h4 w' .eql x y;have e1:Act.eval ⟨tmps,[]⟩ x=.agg xs.toArray:=by cases aR he hx with|d _ _ h=>exact uS h1 h
 have e2:Act.eval ⟨tmps,[]⟩ y=.agg ys.toArray:=by cases aR he hy with|d _ _ h=>exact uS h2 h
 simp only[execOp,e1,e2,Sem.run_bind,k1,Result.andThen_ok,run_eql_struct,k2,Sem.run_pure]
theorem ra:aJ P env st ⟨d,.binOp .neq t x y t2,ty,pos,after,gd⟩ (.d (.ex (.bool (!et xs ys)))):=r3 λg w tmps w' he=>by
 obtain ⟨k1,k2⟩:=J1 hk h3 h4 w' .neq x y;have e1:Act.eval ⟨tmps,[]⟩ x=.agg xs.toArray:=by cases aR he hx with|d _ _ h=>exact uS h1 h
 have e2:Act.eval ⟨tmps,[]⟩ y=.agg ys.toArray:=by cases aR he hy with|d _ _ h=>exact uS h2 h
 simp only[execOp,e1,e2,Sem.run_bind,k1,Result.andThen_ok,run_neq_struct,k2,Sem.run_pure]
end steq
theorem qD {f':FuncId} {l:O uH} {es:O EV} (h:DJ env l=some es):aJ P env st ⟨d,.makeFunc (.func f') #[] l.toArray,ty,pos,after,gd⟩ (.u0 f' es):=by
 intro g base w tmps hinv he;obtain ⟨k1,k2⟩:=wV he l es h;refine ⟨.func (.func f') #[] (l.map (Act.eval ⟨tmps,[]⟩)).toArray,.u0 f' es _ (by simp [k1]) (λi c u hc hu=>k2 i c u hc (by simpa using hu)),λw' _=>?_⟩;simp [execOp,Instr.makeFunc]
theorem pU {o off n m sz:Nat} {k:IntKind} {i:Int} (ht:P.underlying t=some (.array n e)) (hi:∃ inf,P.info? e=some inf/\inf.size=sz) (hx:df env x=some (.ref o off)) (hy:df env y=some (.d (.ex (.int k i)))) (hm:i=m) (cT:m<n) :
  aJ P env st ⟨d,.indexAddr t x y,ty,pos,after,gd⟩ (.ref o (off+m*sz)):=λg base w tmps hinv he=>by
 subst hm;obtain ⟨inf,hi,rfl⟩:=hi;have h:=aR he hx;generalize hv:Act.eval ⟨tmps,[]⟩ x=v at h;have SP:=(aR he hy).bO;cases h with
 | ref _ _ mI =>
  refine ⟨.pointer (some ⟨g.ob o,off+m*inf.size,none⟩),.ref _ _ mI,λw' _=>?_⟩;simp [execOp,hv,SP,Instr.indexAt,asIntOf,run_underlying ht,Instr.sureAddr,sizeOf,typeInfo,hi,cT,Addr.add_lit]
end rules
section rules
variable {P:uG} {f:Ctx} {N:Nat} {S:Start} {Q:EV->St->Prop} {k:List Item} {base:Nat} {env:Env} {st:St} {ops rest:List Oper} {d:Option Tmp} {ty:uE} {pos:String} {after:uD Edge} {gd:Option (Nat×Bool)} {t t2 e:uE} {x y z:uH}
theorem SQ {n m:Nat} {inf:TypeInfo} {cs:O D} {c:D} {k:IntKind} {i:Int} (ht:P.underlying t=some (.array n e)) (h1:(P.underlying e).map lS=some true) (hi:P.info? e=some inf) (hs:inf.size=1)
  (hx:df env x=some (.d (.agg cs))) (hy:df env y=some (.d (.ex (.int k i)))) (hm:i=m) (cT:m<n) (hc:cs[m]?=some c) :
  aJ P env st ⟨d,.index t x y,ty,pos,after,gd⟩ (.d c):=λg base w tmps hinv he=>by
 subst hm;have h:=aR he hx;generalize hv:Act.eval ⟨tmps,[]⟩ x=v at h;have SP:=(aR he hy).bO;cases h with
 | d _ _ h =>
  cases h with
  | agg _ us gq h1c tH =>
   have mI:m<us.size:=by rw[gq];exact (zae.1 hc).1
   have hu:us[m]?=some us[m]:=zbi mI;refine ⟨us[m],.d _ _ (tH m c _ hc hu),λw' hb=>?_⟩;have hag:=wU (P:=P) h1 w';simp [execOp,hv,SP,Instr.index,asIntOf,run_underlying ht,sizeOf,typeInfo,hi,hs,cT,part,hag,mI]
theorem qE {n sz:Nat} {inf ie:TypeInfo} {z:uB} {zs r:O D} {l:O (Nat×uH)} (ht:P.underlying t=some (.array n e)) (hi:P.info? t=some inf) (hz:inf.zero=some z) (hie:P.info? e=some ie) (Q9:ie.size=sz) (rU:cellsD (.d (cv z))=some zs)
  (hl:Fo (λi=>some (i*sz,sz)) env zs l=some r):aJ P env st ⟨d,.build t l.toArray,ty,pos,after,gd⟩ (.d (.agg r)):=by
 intro g base w tmps hinv he;have BK:=mR (g:=g) (w:=w) (st:=st) rU (.d _ _ (rY _ _ z));obtain ⟨us,h1,h2,h3⟩:=u7 he l zs z.cells r hl BK;refine ⟨.agg us,.d _ _ (.agg r us h2.1 (λi u hu=>?_) λi c u hc hu=>(h2.2 i c u hc hu).1),λw' hb=>?_⟩
 ·have hi':i<r.length:=by rw[←h2.1];exact (zay.1 hu).1
  exact (h2.2 i _ u (zag hi') hu).2
 ·subst Q9;have hso:(sizeOf e:Sem Nat).run P w'=.ok ie.size w':=by simp [sizeOf,typeInfo,hie]
  simp only[execOp,Instr.build,Sem.run_bind,u9 hi hz,Result.andThen_ok,run_underlying ht,zeo,hso];rw[h1];simp
def ur (x y:D):Prop:=∀ lim w v,dY lim w x v->dY lim w y v
theorem ur.ak (x:D):ur x x:=λ_ _ _ h=>h
theorem ur.nil (sz:Nat):ur (.ex (.slice none 0 0)) (.sl sz []):=λ_ _ _ h=>by cases h;exact .nil sz _
def Is:List D->List D->Prop
 | [],[]=>True
 | x::xs,y::ys=>ur x y/\Is xs ys
 | _,_=>False
theorem Is.get:∀ {xs ys:O D},Is xs ys->xs.length=ys.length/\∀ (i:Nat) y,ys[i]?=some y->∃ x,xs[i]?=some x/\ur x y
 | [],[],_=>⟨rfl,λi y h=>by simp at h⟩
 | x::xs,y::ys,h=>by
  obtain ⟨h1,h2⟩:=Is.get h.2;refine ⟨by simp [h1],λi z hz=>?_⟩;cases i with
  | zero=>simp at hz;subst hz;exact ⟨x,rfl,h.1⟩
  | succ i=>simpa using h2 i z (by simpa using hz)
 | [],_::_,h=>h.elim
 | _::_,[],h=>h.elim
theorem ur.agg {xs ys:O D} (h:Is xs ys):ur (.agg xs) (.agg ys):=by
 intro lim w v hv;obtain ⟨h1,h2⟩:=h.get;cases hv with
 | agg _ vs hs ho hc =>
  refine .agg _ vs (by rw[hs,h1]) ho λi c u hi hu=>?_
  obtain ⟨x,hx,hle⟩:=h2 i c hi;exact hle lim w u (hc i x u hx hu)
def LZ:List (List D)->List (List D)->Prop
 | [],[]=>True
 | x::xs,y::ys=>Is x y/\LZ xs ys
 | _,_=>False
theorem LZ.get:∀ {xs ys:O (O D)},LZ xs ys->xs.length=ys.length/\∀ (i:Nat) y,ys[i]?=some y->∃ x,xs[i]?=some x/\Is x y
 | [],[],_=>⟨rfl,λi y h=>by simp at h⟩
 | x::xs,y::ys,h=>by
  obtain ⟨h1,h2⟩:=LZ.get h.2;refine ⟨by simp [h1],λi z hz=>?_⟩;cases i with
  | zero=>simp at hz;subst hz;exact ⟨x,rfl,h.1⟩
  | succ i=>simpa using h2 i z (by simpa using hz)
 | [],_::_,h=>h.elim
 | _::_,[],h=>h.elim
theorem ur.sl {sz:Nat} {xs ys:O (O D)} (h:LZ xs ys):ur (.sl sz xs) (.sl sz ys):=by
 intro lim w v hv;obtain ⟨h1,h2⟩:=h.get;cases hv with
 | nil =>
  have:ys=[]:=zba (by rw[←h1];rfl);subst this;exact .nil sz _
 | sl _ _ b off cap hc hr hx hh =>
  rw[h1];refine .sl sz ys b off cap (by rw[←h1];exact hc) (λrow s6=>?_) (λk hk=>hx k (by rw[h1];exact hk)) λi j row c u hi hj hu=>?_
  ·obtain ⟨i,hi⟩:=zdj.1 s6;obtain ⟨x,lO,hle⟩:=h2 i row hi;rw[←hle.get.1];exact hr x (zbj lO)
  ·obtain ⟨x,lO,hle⟩:=h2 i row hi;obtain ⟨d,hd,hl⟩:=hle.get.2 j c hj;exact hl lim w u (hh i j x d u lO hd hu)
theorem aE.le {f:FuncId} {xs ys:O D} {q:D->Prop} (h:aE P f ys q) (hle:Is xs ys):aE P f xs q:=by
 intro lim w vs hg ha;obtain ⟨h1,h2⟩:=hle.get;refine h lim w vs hg ⟨by rw[ha.1,h1],λi y v hy hv=>?_⟩;obtain ⟨x,hx,hl⟩:=h2 i y hy;exact hl lim w v (ha.2 i x v hx hv)
end rules
def ck {α:Type} (p:Prop) [Decidable p] (k:Option α):Option α:=if p then k else none
theorem ar {α:Type} {p:Prop} [Decidable p] {k:J α} {r:α} (h:ck p k=some r):p/\k=some r:=by
 unfold ck at h;split at h
 ·exact ⟨by assumption,h⟩
 ·cases h
theorem ck2 {α:Type} {p0 p1:Prop} [Decidable p0] [Decidable p1] {x:J α} {r:α} (h:ck p0 (ck p1 x)=some r):p0/\p1/\x=some r:=by
 obtain ⟨h0,h⟩:=ar h;obtain ⟨h1,h⟩:=ar h;exact ⟨h0,h1,h⟩
theorem ck3 {α:Type} {p0 p1 p2:Prop} [Decidable p0] [Decidable p1] [Decidable p2] {x:J α} {r:α} (h:ck p0 (ck p1 (ck p2 x))=some r):p0/\p1/\p2/\x=some r:=by
 obtain ⟨h0,h⟩:=ar h;obtain ⟨h1,h⟩:=ar h;obtain ⟨h2,h⟩:=ar h;exact ⟨h0,h1,h2,h⟩
theorem ck4 {α:Type} {p0 p1 p2 p3:Prop} [Decidable p0] [Decidable p1] [Decidable p2] [Decidable p3] {x:J α} {r:α} (h:ck p0 (ck p1 (ck p2 (ck p3 x)))=some r):p0/\p1/\p2/\p3/\x=some r:=by
 obtain ⟨h0,h⟩:=ar h;obtain ⟨h1,h⟩:=ar h;obtain ⟨h2,h⟩:=ar h;obtain ⟨h3,h⟩:=ar h;exact ⟨h0,h1,h2,h3,h⟩
theorem ck5 {α:Type} {p0 p1 p2 p3 p4:Prop} [Decidable p0] [Decidable p1] [Decidable p2] [Decidable p3] [Decidable p4] {x:J α} {r:α} (h:ck p0 (ck p1 (ck p2 (ck p3 (ck p4 x))))=some r):p0/\p1/\p2/\p3/\p4/\x=some r:=by
 obtain ⟨h0,h⟩:=ar h;obtain ⟨h1,h⟩:=ar h;obtain ⟨h2,h⟩:=ar h;obtain ⟨h3,h⟩:=ar h;obtain ⟨h4,h⟩:=ar h;exact ⟨h0,h1,h2,h3,h4,h⟩
theorem ck6 {α:Type} {p0 p1 p2 p3 p4 p5:Prop} [Decidable p0] [Decidable p1] [Decidable p2] [Decidable p3] [Decidable p4] [Decidable p5] {x:J α} {r:α} (h:ck p0 (ck p1 (ck p2 (ck p3 (ck p4 (ck p5 x)))))=some r):p0/\p1/\p2/\p3/\p4/\p5/\x=some r:=by
 obtain ⟨h0,h⟩:=ar h;obtain ⟨h1,h⟩:=ar h;obtain ⟨h2,h⟩:=ar h;obtain ⟨h3,h⟩:=ar h;obtain ⟨h4,h⟩:=ar h;obtain ⟨h5,h⟩:=ar h;exact ⟨h0,h1,h2,h3,h4,h5,h⟩
theorem ck7 {α:Type} {p0 p1 p2 p3 p4 p5 p6:Prop} [Decidable p0] [Decidable p1] [Decidable p2] [Decidable p3] [Decidable p4] [Decidable p5] [Decidable p6] {x:J α} {r:α} (h:ck p0 (ck p1 (ck p2 (ck p3 (ck p4 (ck p5 (ck p6 x))))))=some r):p0/\p1/\p2/\p3/\p4/\p5/\p6/\x=some r:=by
 obtain ⟨h0,h⟩:=ar h;obtain ⟨h1,h⟩:=ar h;obtain ⟨h2,h⟩:=ar h;obtain ⟨h3,h⟩:=ar h;obtain ⟨h4,h⟩:=ar h;obtain ⟨h5,h⟩:=ar h;obtain ⟨h6,h⟩:=ar h;exact ⟨h0,h1,h2,h3,h4,h5,h6,h⟩
abbrev dp (x:Int):Prop:=-9223372036854775808<=x/\x<=9223372036854775807
theorem af {α:Type} {p:Prop} [Decidable p] {k:J α} (h:p):ck p k=k:=zab h
def cG {α:Type} [Inhabited α] (b:Bool) (o:Option α):Option α:=if b=true then o else some default
theorem bu {α:Type} [Inhabited α] {b:Bool} {o:J α} {y:α} (h:cG b o=some y):b=true->o=some y:=λhb=>by
 rw[cG,zab hb] at h;exact h
theorem ae {α β:Type} {o:J α} {k:α->J β} {r:β} (h:o.bind k=some r):∃ y,o=some y/\k y=some r:=by
 cases o with
 | none=>cases h
 | some y=>exact ⟨y,rfl,h⟩
theorem cn {α β:Type} {o:J α} {k:α->β} {r:β} (h:o.map k=some r):∃ y,o=some y/\k y=r:=by
 cases o with
 | none=>cases h
 | some y=>exact ⟨y,rfl,by simpa using h⟩
theorem ifT {α:Type} {b:Bool} {x y:J α} {r:α} (hc:b=true) (h:(if b=true then x else y)=some r):x=some r:=by rw[zab hc] at h;exact h
theorem ifF {α:Type} {b:Bool} {x y:J α} {r:α} (hc:b=false) (h:(if b=true then x else y)=some r):y=some r:=by rw[zaa (by rw[hc];exact zdz)] at h;exact h
def iter {S R:Type} (step:S->Option (S ⊕ R)):Nat->S->Option R
 | 0,_=>none
 | n+1,s=>match step s with
  | none=>none
  | some (.inl s')=>iter step n s'
  | some (.inr r)=>some r
def loop {S R:Type} (step:S->Option (S ⊕ R)) (s:S):Option R:=iter step 18446744073709551616 s
theorem sb {S R:Type} {step:S->J (S ⊕ R)} {s:S} {r:R} (h:loop step s=some r):∃ n,iter step n s=some r:=⟨_,h⟩
def Kof {S R:Type} (step:S->Option (S ⊕ R)) (n:Nat) (ρ:R):S ⊕ R->Prop
 | .inl s=>iter step n s=some ρ
 | .inr r=>r=ρ
theorem sd {S R:Type} {step:S->J (S ⊕ R)} {n:Nat} {s:S} {ρ:R} (h:iter step n s=some ρ):∃ m q,m<n/\step s=some q/\Kof step m ρ q:=by
 cases n with
 | zero=>cases h
 | succ m =>
  unfold iter at h;split at h
  ·cases h
  ·rename_i s' hs;exact ⟨m,_,zfw _,hs,h⟩
  ·rename_i r hs;cases h;exact ⟨m,_,zfw _,hs,rfl⟩
def Kq {S R:Type} (r:R) (P:S->Prop):S⊕R->Prop
 | .inl s=>P s
 | .inr x=>x=r
theorem bA.lp {P:uG} {f:Ctx} {N:Nat} {S:Start} {Q:EV->St->Prop} {k:O Item} {env:Env} {st:St} {c:Code} {σ R:Type} {F:σ->J (σ⊕R)} {s0:σ} {r:R} (H:Go.Abs.loop F s0=some r) (E:σ->Env) (T:σ->St) (hE:dz env (E s0)) (hT:st=T s0) (step:∀ s q,F s=some q->Kq r (λj=>bA P f N S Q (.inLoop c::k) (E j) (T j)) q->bA P f N S Q (.code c::.inLoop c::k) (E s) (T s)):bA P f N S Q (.code (.loop c)::k) env st:=by
 obtain ⟨n,H⟩:=sb H;refine .loop (ι:=Nat×σ) (λp=>E p.2) (λp=>T p.2) (λp=>iter F p.1 p.2=some r) (·.1) (n,s0) H hE hT ?_
 rintro ⟨m,s⟩ HI ih;obtain ⟨m1,q,hm,h,hk⟩:=sd HI;refine step s q h ?_;cases q with
 | inl j=>exact ih (m1,j) hk hm
 | inr x=>exact hk
theorem jM {S R:Type} {step:S->J (S ⊕ R)} (F:S->J R) (I:S->Prop) (μ:S->Nat)
  (h:∀ s,I s->(∃ r,step s=some (.inr r)/\F s=some r)∨∃ s',step s=some (.inl s')/\I s'/\μ s'<μ s/\F s'=F s) {s:S} (hI:I s) (hμ:μ s<18446744073709551616):loop step s=F s:=by
 have key:∀ n s,I s->μ s<n->∃ r,iter step n s=some r/\F s=some r:=by
  intro n
  induction n with
  | zero=>intro s _ hn;omega
  | succ n ih =>
   intro s hI hn;rcases h s hI with ⟨r,h1,h2⟩|⟨s',h1,h2,h3,h4⟩
   ·exact ⟨r,by unfold iter;rw[h1],h2⟩
   ·obtain ⟨r,k1,k2⟩:=ih s' h2 (by omega);exact ⟨r,by unfold iter;rw[h1];exact k1,by rw[←h4];exact k2⟩
 obtain ⟨r,h1,h2⟩:=key _ s hI hμ;rw[h2];exact h1
theorem uT {S R:Type} {step:S->J (S ⊕ R)} (Q:R->Prop) (I:S->Prop) (μ:S->Nat)
  (h:∀ s,I s->(∃ r,step s=some (.inr r)/\Q r)∨∃ s',step s=some (.inl s')/\I s'/\μ s'<μ s) {s:S} (hI:I s) (hμ:μ s<18446744073709551616):∃ r,loop step s=some r/\Q r:=by
 have key:∀ n s,I s->μ s<n->∃ r,iter step n s=some r/\Q r:=by
  intro n
  induction n with
  | zero=>intro s _ hn;omega
  | succ n ih =>
   intro s hI hn;rcases h s hI with ⟨r,h1,h2⟩|⟨s',h1,h2,h3⟩
   ·exact ⟨r,by unfold iter;rw[h1],h2⟩
   ·obtain ⟨r,k1,k2⟩:=ih s' h2 (by omega);exact ⟨r,by unfold iter;rw[h1];exact k1,k2⟩
 exact key _ s hI hμ
abbrev cU8 (b:uA):D:=.ex (.int .u8 (b.toNat:Int))
abbrev cK (k:IntKind) (n:Int):D:=.ex (.int k n)
abbrev aT:D:=.ex (.slice none 0 0)
def Xe {α:Type} (sz:Nat) (row:α->List D) (l:List α):List D:=[.sl sz (l.map row)]
theorem eC.d {x y:D} (h:ur x y):eC (.d x) (.d y):=λg w st v hv=>by cases hv with|d _ _ hd=>exact .d _ _ (h _ _ _ hd)
theorem ur.e0 (sz:Nat):ur (.e0 sz) (.sl sz []):=λ_ _ _ h=>D.Py h
theorem ur.dN {xs ys:O D} (h:Is xs ys):ur (.dN xs) (.dN ys):=by
 intro lim w v hv;obtain ⟨h1,h2⟩:=h.get;cases hv with
 | dN _ vs hs hc =>
  refine .dN _ vs (by rw[hs,h1]) λi c u hi hu=>?_
  obtain ⟨x,hx,hle⟩:=h2 i c hi;exact hle lim w u (hc i x u hx hu)
theorem ur.ro {xs ys:O D} (h:Is xs ys):ur (.ro xs) (.ro ys):=by
 intro lim w v hv;obtain ⟨h1,h2⟩:=h.get;cases hv with
 | ro _ b off hx hc =>
  refine .ro ys b off (λk hk=>hx k (by rw[h1];exact hk)) λj c u hj hu=>?_;obtain ⟨x,lO,hle⟩:=h2 j c hj;exact hle lim w u (hc j x u lO hu)
section weak
variable {P:uG} {f:Ctx} {N:Nat} {S:Start} {Q:EV->St->Prop} {k:List Item} {todo:List Item} {env:Env} {st:St} {ops rest:List Oper}
theorem cr.wv {st':St} (h:st=st') (hk:cr P f N S Q ops rest k env st'):cr P f N S Q ops rest k env st:=h▸hk
end weak
theorem aJ.le {P:uG} {env:Env} {st:St} {o:Oper} {x y:EV} (h:aJ P env st o x) (hle:eC x y):aJ P env st o y:=λg b w t hi he =>
 let ⟨v,h1,h2⟩:=h g b w t hi he
 ⟨v,hle _ _ _ _ h1,h2⟩
theorem BL.le {P:uG} {env:Env} {st:St} {o:Oper} {x y:EV} (h:BL P env st o x) (hle:eC x y):BL P env st o y:=λg b w t hi he=>by
 rcases h g b w t hi he with ⟨v,l,w',h1,h2,h3,h4⟩|⟨f,a,h1,h2⟩
 ·exact .inl ⟨v,l,w',h1,hle _ _ _ _ h2,h3,h4⟩
 ·exact .inr ⟨f,a,h1,h2.mono λe w' ⟨v,l,k0,k1,k2,k3⟩=>⟨v,l,k0,hle _ _ _ _ k1,k2,k3⟩⟩
section q
variable {P:uG} {base:Nat} {env:Env} {st:St} {d:Option Tmp} {ty:uE} {pos:String} {after:uD Edge} {gd:Option (Nat×Bool)} {t t2 e:uE} {x y z:uH}
section u8
variable {a b:uA} (hx:df env x=some (.d (cU8 a))) (hy:df env y=some (.d (cU8 b)))
theorem Yi (a b:uA):((a.toNat:Int)==(b.toNat:Int))=(a==b):=by
 rw[zbl];simp only[zec];constructor
 ·intro h;exact UInt8.toNat_inj.1 (by omega)
 ·intro h;rw[h]
include hx hy
theorem J4:aJ P env st ⟨d,.binOp .lss t x y t2,ty,pos,after,gd⟩ (.d (cB (decide (a<b)))):=by
 have:=W0 (P:=P) (st:=st) (d:=d) (ty:=ty) (pos:=pos) (after:=after) (gd:=gd) (t:=t) (t2:=t2) hx hy
 rwa [show decide (((a.toNat:Int))<(b.toNat:Int))=decide (a<b) from by rw[zfx,UInt8.lt_iff_toNat_lt];omega] at this
theorem Yj:aJ P env st ⟨d,.binOp .leq t x y t2,ty,pos,after,gd⟩ (.d (cB (decide (a<=b)))):=by
 have:=W3 (P:=P) (st:=st) (d:=d) (ty:=ty) (pos:=pos) (after:=after) (gd:=gd) (t:=t) (t2:=t2) hx hy
 rwa [show decide (((a.toNat:Int))<=(b.toNat:Int))=decide (a<=b) from by rw[zfx,UInt8.le_iff_toNat_le];omega] at this
theorem J5:aJ P env st ⟨d,.binOp .gtr t x y t2,ty,pos,after,gd⟩ (.d (cB (decide (a > b)))):=by
 have:=W4 (P:=P) (st:=st) (d:=d) (ty:=ty) (pos:=pos) (after:=after) (gd:=gd) (t:=t) (t2:=t2) hx hy
 rwa [show decide (((a.toNat:Int)) > (b.toNat:Int))=decide (a > b) from by rw[zfx,gt_iff_lt,gt_iff_lt,UInt8.lt_iff_toNat_lt];omega] at this
theorem Yk:aJ P env st ⟨d,.binOp .geq t x y t2,ty,pos,after,gd⟩ (.d (cB (decide (a>=b)))):=by
 have:=W5 (P:=P) (st:=st) (d:=d) (ty:=ty) (pos:=pos) (after:=after) (gd:=gd) (t:=t) (t2:=t2) hx hy
 rwa [show decide (((a.toNat:Int))>=(b.toNat:Int))=decide (a>=b) from by rw[zfx,ge_iff_le,ge_iff_le,UInt8.le_iff_toNat_le];omega] at this
theorem Yl:aJ P env st ⟨d,.binOp .neq t x y t2,ty,pos,after,gd⟩ (.d (cB (a != b))):=by
 have:=W6 (P:=P) (st:=st) (d:=d) (ty:=ty) (pos:=pos) (after:=after) (gd:=gd) (t:=t) (t2:=t2) hx hy
 rwa [show ((a.toNat:Int) != (b.toNat:Int))=(a != b) from by unfold bne;rw[Yi]] at this
end u8
section sl
variable {α:Type} {sz:Nat} {row:α->List D} {l:List α} {ev:EV} {inf:TypeInfo}
theorem Ym [Inhabited α] {k:IntKind} {i:Int} (ht:P.underlying t=some (.slice e)) (hi:P.info? e=some inf) (gq:inf.size=sz) (hx:df env x=some ev) (hs:vP ev=some (sz,l.map row)) (hy:df env y=some (.d (.ex (.int k i)))) (h:0<=i/\i<l.length) :
  aJ P env st ⟨d,.indexAddr t x y,ty,pos,after,gd⟩ (.d (.ro (row (nth l i.toNat)))):=Yg (n:=i.toNat) ht hi gq hx hs hy (by omega) (DR (by omega))
theorem pV {a:O uA} {k:IntKind} {i:Int} (ht:P.underlying t=some .string) (hx:df env x=some (.d (cS a))) (hy:df env y=some (.d (.ex (.int k i)))) (h:0<=i/\i<a.length) :
  aJ P env st ⟨d,.index t x y,ty,pos,after,gd⟩ (.d (cU8 (nth a i.toNat))):=by
 have:=SM (n:=i.toNat) (st:=st) (d:=d) (ty:=ty) (pos:=pos) (after:=after) (gd:=gd) ht hx hy (by omega) (by omega);exact this
theorem Yn (ht:P.underlying t=some (.slice e)) (hx:df env x=some ev) (hs:vP ev=some (sz,l.map row)) :
  aJ P env st ⟨d,.call ⟨.builtin .len,#[x],#[t]⟩,ty,pos,after,gd⟩ (.d (cI (l.length:Int))):=by
 have:=Yh (st:=st) (d:=d) (ty:=ty) (pos:=pos) (after:=after) (gd:=gd) ht hx hs
 rwa [zcz] at this
theorem PM {kl kh:IntKind} {a b:Int} (ht:P.underlying t=some (.slice e)) (hi:P.info? e=some inf) (gq:inf.size=sz) (hx:df env x=some ev) (hs:vP ev=some (sz,l.map row)) (hy:df env y=some (.d (.ex (.int kl a)))) (hz:df env z=some (.d (.ex (.int kh b)))) (h:0<=a/\a<=b/\b<=l.length) :
  aJ P env st ⟨d,.slice t x (some y) (some z) none,ty,pos,after,gd⟩ (.d (ag sz row ((l.take b.toNat).drop a.toNat))):=by
 have:=X3 (st:=st) (d:=d) (ty:=ty) (pos:=pos) (after:=after) (gd:=gd) ht hi gq hx hs hy hz h.1 h.2.1 (by simpa using h.2.2);simpa [ag] using this
theorem zw {kh:IntKind} {b:Int} (ht:P.underlying t=some (.slice e)) (hi:P.info? e=some inf) (gq:inf.size=sz) (hx:df env x=some ev) (hs:vP ev=some (sz,l.map row)) (hz:df env z=some (.d (.ex (.int kh b)))) (h:0<=b/\b<=l.length) :
  aJ P env st ⟨d,.slice t x none (some z) none,ty,pos,after,gd⟩ (.d (ag sz row (l.take b.toNat))):=by
 have:=q_slH (st:=st) (d:=d) (ty:=ty) (pos:=pos) (after:=after) (gd:=gd) ht hi gq hx hs hz h.1 (by simpa using h.2);simpa [ag] using this
theorem J6 {kl:IntKind} {a:Int} (ht:P.underlying t=some (.slice e)) (hi:P.info? e=some inf) (gq:inf.size=sz) (hx:df env x=some ev) (hs:vP ev=some (sz,l.map row)) (hy:df env y=some (.d (.ex (.int kl a)))) (h:0<=a/\a<=l.length) :
  aJ P env st ⟨d,.slice t x (some y) none none,ty,pos,after,gd⟩ (.d (ag sz row (l.drop a.toNat))):=by
 have:=q_slL (st:=st) (d:=d) (ty:=ty) (pos:=pos) (after:=after) (gd:=gd) ht hi gq hx hs hy h.1 (by simpa using h.2);simpa [ag] using this
theorem SR {a:O uA} {kl kh:IntKind} {i j:Int} (ht:P.underlying t=some .string) (hx:df env x=some (.d (cS a))) (hy:df env y=some (.d (.ex (.int kl i)))) (hz:df env z=some (.d (.ex (.int kh j)))) (h:0<=i/\i<=j/\j<=a.length) :
  aJ P env st ⟨d,.slice t x (some y) (some z) none,ty,pos,after,gd⟩ (.d (cS ((a.take j.toNat).drop i.toNat))):=by
 have:=Vo (st:=st) (d:=d) (ty:=ty) (pos:=pos) (after:=after) (gd:=gd) ht hx hy hz h.1 h.2.1 h.2.2
 rwa [←List.drop_take] at this
theorem DS {n b:Nat} (h:n<=1000000000) (hb:b<=100000):n*b<=140737488355328:=zdn (Nat.mul_le_mul h hb) (by decide)
theorem Aj {l':O α} {tk:Nat} {z:uB} {w:EV} (ht:P.underlying t=some (.slice e)) (hi:P.info? e=some inf) (hz:inf.zero=some z) (fg:inf.size=sz) (rU:z.cells.size=sz) (hb:inf.bytes<=100000)
  (hx:df env x=some (.cm sz (l.map row) tk)) (fO:st.av[tk]?=some ⟨e,sz,l.length,none⟩) (hy:df env y=some w) (hs:vP w=some (sz,l'.map row)) (hn:l.length+l'.length<=1000000000) :
  zj P base env st ⟨d,.call ⟨.builtin .append,#[x,y],#[t,t]⟩,ty,pos,after,gd⟩ (.cm sz ((l++l').map row) tk) (st.bG tk ⟨e,sz,(l++l').length,none⟩):=by
 have:=SC (base:=base) (d:=d) (ty:=ty) (pos:=pos) (after:=after) (gd:=gd) ht hi hz fg rU hx (by simpa using fO) hy hs (by simpa using DS hn hb) (by simp;omega);simpa using this
theorem xQ {l':O α} {z:uB} {w:EV} (ht:P.underlying t=some (.slice e)) (hi:P.info? e=some inf) (hz:inf.zero=some z) (fg:inf.size=sz) (rU:z.cells.size=sz) (hb:inf.bytes<=100000)
  (hx:df env x=some (.d aT)) (hy:df env y=some w) (hs:vP w=some (sz,l'.map row)) (hn:l'.length<=1000000000) :
  zj P base env st ⟨d,.call ⟨.builtin .append,#[x,y],#[t,t]⟩,ty,pos,after,gd⟩ (.cm sz (l'.map row) st.av.length) ((st.tok ⟨e,sz,0,none⟩).bG st.av.length ⟨e,sz,l'.length,none⟩):=by
 have:=LO (base:=base) (st:=st) (d:=d) (ty:=ty) (pos:=pos) (after:=after) (gd:=gd) ht hi hz fg rU hx hy hs (by simpa using DS hn hb) (by simp;omega);simpa using this
theorem ve {l':O α} {z:uB} {w e0:EV} (ht:P.underlying t=some (.slice e)) (hi:P.info? e=some inf) (hz:inf.zero=some z) (fg:inf.size=sz) (rU:z.cells.size=sz) (hb:inf.bytes<=100000)
  (hx:df env x=some e0) (h0:e0=.d (.e0 sz)∨e0=.d aT) (hy:df env y=some w) (hs:vP w=some (sz,l'.map row)) (hn:l'.length<=1000000000) :
  BL P env st ⟨d,.call ⟨.builtin .append,#[x,y],#[t,t]⟩,ty,pos,after,gd⟩ (.d (ag sz row l')) :=
 Q2 ht hi hz fg rU hx h0 hy hs (by simpa using DS hn hb) (by simp;omega)
end sl
end q
section ret
variable {P:uG} {f:Ctx} {N:Nat} {S:Start} {Q:EV->St->Prop} {k:List Item} {env:Env} {st:St}
theorem bA.bW {id:Nat} {c:Code} {ι:Type} (E:ι->Env) (T:ι->St) (I:ι->Prop)
  (hk:∀ i,I i->bA P f N S Q k (E i) (T i)) (h:(∀ i,I i->bA P f N S Q (.inBlock id::k) (E i) (T i))->(∀ i,I i->bA P f N S Q k (E i) (T i))->bA P f N S Q (.code c::.inBlock id::k) env st) :
  bA P f N S Q (.code (.block id c)::k) env st:=.block (h (λi hi=>.inBlock (hk i hi)) hk)
def Xf (P:uG) (env:Env) (st:St):ResultVar->EV->Prop
 | .tmp t,r=>lookup t env=some r
 | .cell a T,r=>(∃ o off,lookup a env=some (.ref o off))/\aJ P env st ⟨none,.load T (.tmp a),0, "",#[],none⟩ r
def GC (P:uG) (env:Env) (st:St):List ResultVar->List EV->Prop
 | [],[]=>True
 | x::xs,e::es=>Xf P env st x e/\GC P env st xs es
 | _,_=>False
def GD:List EV->EV
 | [r]=>r
 | l=>.dN l
def L0:List EV->List D->Prop
 | [],[]=>True
 | e::es,x::xs=>eC e (.d x)/\L0 es xs
 | _,_=>False
theorem L0.get:∀ {es:O EV} {ds:O D},L0 es ds->es.length=ds.length/\∀ (i:Nat) d,ds[i]?=some d->∃ e,es[i]?=some e/\eC e (.d d)
 | [],[],_=>⟨rfl,λi y h=>by simp at h⟩
 | e::es,d::ds,h=>by
  obtain ⟨h1,h2⟩:=L0.get h.2;refine ⟨by simp [h1],λi z hz=>?_⟩;cases i with
  | zero=>simp at hz;subst hz;exact ⟨e,rfl,h.1⟩
  | succ i=>simpa using h2 i z (by simpa using hz)
 | [],_::_,h=>h.elim
 | _::_,[],h=>h.elim
theorem eC.qF {es:O EV} {ds:O D} (h:L0 es ds):eC (.dN es) (.d (.dN ds)):=by
 intro g w st v hv;obtain ⟨h1,h2⟩:=h.get;cases hv with
 | dN _ vs hs hc =>
  refine .d _ _ (.dN _ vs (by rw[hs,h1]) λi d u hd hu=>?_);obtain ⟨e,he,hle⟩:=h2 i d hd;cases hle _ _ _ _ (hc i e u he hu) with|d _ _ h=>exact h
def I9 (tmps:uD uB):ResultVar->Sem uB
 | .tmp t=>pure (tmps.getD t undef)
 | .cell a t=>do loadVar t (←asAddr (tmps.getD a undef))
theorem Vx {g:b8} {w:uC} {base:Nat} {tmps:uD uB} (hi:Inv g base w st) (he:eB g w st env tmps) {x:ResultVar} {e:EV} (h:Xf P env st x e) :
  ∃ v,(I9 tmps x).run P w=.ok v w/\bP g w st e v:=by
 cases x with
 | tmp t =>
  obtain ⟨v,h1,h2⟩:=he t e h;exact ⟨v,by simp [I9,zau,h1],h2⟩
 | cell a T =>
  obtain ⟨⟨o,off,hx⟩,hq⟩:=h;obtain ⟨v,h1,h2⟩:=hq g base w tmps hi he;have h3:=h2 w (.refl _ _);obtain ⟨pv,h4,h5⟩:=he a _ hx;have h6:(Act.eval ⟨tmps,[]⟩ (.tmp a))=pv:=by
   show tmps.getD a undef=pv;rw[zau,h4];rfl
  refine ⟨v,?_,h1⟩;cases h5 with
  | ref _ _ cT =>
   simp only[execOp,h6,Instr.loadAt,Instr.sureAddr,Sem.run_bind] at h3;simp only[I9];simp [zau,h4,asAddr];simp at h3;generalize (Sem.run P (loadVar T { block:=g.ob o,off:=off }) w)=res at h3 ⊢;cases res with
   | ok x w2=>simp [Result.andThen_ok] at h3;simp [h3]
   | halt h w2=>simp [Result.andThen] at h3
theorem J7 {g:b8} {w:uC} {base:Nat} {tmps:uD uB} (hi:Inv g base w st) (he:eB g w st env tmps):∀ {xs:O ResultVar} {es:O EV},GC P env st xs es ->
  ∃ vs:O uB,(xs.mapM (I9 tmps)).run P w=.ok vs w/\vs.length=es.length/\∀ (i:Nat) e v,es[i]?=some e->vs[i]?=some v->bP g w st e v
 | [],[],_=>⟨[],by simp,rfl,by simp⟩
 | x::xs,e::es,h=>by
  obtain ⟨v,h1,h2⟩:=Vx hi he h.1;obtain ⟨vs,k1,k2,k3⟩:=J7 hi he h.2;refine ⟨v::vs,by simp [h1,k1],by simp [k2],λi e' v' Ck BN=>?_⟩;cases i with
  | zero=>simp at Ck BN;subst Ck;subst BN;exact h2
  | succ i=>exact k3 i e' v' (by simpa using Ck) (by simpa using BN)
 | [],_::_,h=>h.elim
 | _::_,[],h=>h.elim
theorem bA.Yo {f:FuncId} {fn:Func} (xs:List ResultVar) (es:List EV) (hf:P.funcs[f]?=some fn) (hr:fn.results=xs.toArray) (h:GC P env st xs es) (hQ:Q (GD es) st):bA P (.of f) N S Q (.code .ret::k) env st:=by
 intro g w tmps hi hh he hn;obtain ⟨vs,h1,h2,h3⟩:=J7 hi he h;have iS:(results fn tmps).run P w=.ok (if h:vs.toArray.size=1 then vs.toArray[0] else .tuple vs.toArray) w:=by
  have Yp:(results fn tmps)=(do let vs ←fn.results.mapM (I9 tmps);pure (if h:vs.size=1 then vs[0] else .tuple vs)):=by
   unfold results;congr 1
  rw[Yp,hr,zfs];simp only[Sem.run_bind,Sem.run_map,h1,Result.andThen_ok,Sem.run_pure]
 refine e9.ret hf iS ⟨_,GD es,st,g,rfl,hQ,?_,hi,hh⟩;by_cases hl:vs.toArray.size=1
 ·rw[dif_pos hl]
  match vs,es,h2,hl,h3 with
  | [v],[e],_,_,h3=>exact h3 0 e v rfl rfl
  | [],_,_,hl,_=>simp at hl
  | _::_::_,_,_,hl,_=>simp at hl
 ·rw[dif_neg hl];have hes:GD es=.dN es:=by
   match es,h2 with
   | [],_=>rfl
   | [e],h2=>exact absurd (by simpa using h2) hl
   | _::_::_,_=>rfl
  rw[hes];exact .dN es vs.toArray (by simpa using h2) λi c u hc hu=>h3 i c u hc (by simpa using hu)
end ret
section b
variable {P:uG} {env:Env} {st:St} {d:Option Tmp} {ty:uE} {pos:String} {after:uD Edge} {gd:Option (Nat×Bool)} {t t2 e:uE} {x y z:uH}
theorem iO {n sz:Nat} {inf:TypeInfo} {z:uB} {zs:O D} {rows:O (O D)} {l:O (Nat×uH)} (ht:P.underlying t=some (.slice e)) (hi:P.info? e=some inf) (gq:inf.size=sz) (hz:inf.zero=some z) (rU:Nat.beq z.cells.size sz=true)
  (zm:(Nat.ble (n*sz) 16777216 && Nat.blt 0 n && Nat.blt 0 sz)=true) (PH:cellsD (.d (cv z))=some zs) (hl:Fo (λi=>some (i*sz,sz)) env (List.replicate n zs).flatten l=some rows.flatten)
  (hr:(rows.all (λr=>Nat.beq r.length sz) && Nat.beq rows.length n)=true) :
  BL P env st ⟨d,.buildSlice t n l.toArray,ty,pos,after,gd⟩ (.d (.sl sz rows)):=by
 simp only[zat] at zm hr;have Iq:=zaw rU;have Sd:zs.length=sz:=by
  have:=(mR (g:=⟨λ_=>0,λ_=>0,λ_=>.nilFunc⟩) (w:=(default:uC)) (st:=⟨[],[]⟩) PH (.d _ _ (rY _ _ z))).1;omega
 exact CA ht hi gq hz Iq (jU zm.1.2) (zaf zm.1.1) (by simp [Sd]) PH hl hr.1 (zaw hr.2) (jU zm.2)
theorem eD {a b:Bool} (hx:df env x=some (.d (cB a))) (hy:df env y=some (.gd a (.d (cB b)))) (hz:df env z=some (.d (cB false))) :
  aJ P env st ⟨d,.pick x y z,ty,pos,after,gd⟩ (.d (cB (a && b))):=by
 have:=QW (P:=P) (st:=st) (d:=d) (ty:=ty) (pos:=pos) (after:=after) (gd:=gd) hx hy hz
 rwa [show (if a=true then b else false)=(a && b) from by cases a <;> rfl] at this
theorem DT {a b:Bool} (hx:df env x=some (.d (cB a))) (hy:df env y=some (.d (cB true))) (hz:df env z=some (.gd (!a) (.d (cB b)))) :
  aJ P env st ⟨d,.pick x y z,ty,pos,after,gd⟩ (.d (cB (a || b))):=by
 have:=Sl (P:=P) (st:=st) (d:=d) (ty:=ty) (pos:=pos) (after:=after) (gd:=gd) hx hy hz
 rwa [show (if a=true then true else b)=(a || b) from by cases a <;> rfl] at this
theorem uu {f':FuncId} {l:O uH} {ts:uD uE} {es:O EV} {ds:O D} {r:D} (Fi:Enters P f') (hx:df env x=some (.d (.ex (.func (.func f') #[] #[])))) (h1:DJ env l=some es) (h2:Oj es=some ds) (hc:aE P f' ds (·=r)) :
  BL P env st ⟨d,.call ⟨.value x,l.toArray,ts⟩,ty,pos,after,gd⟩ (.d r):=λg base w tmps hi he=>by
 have hv:=(aR he hx).bO;have iS:=I6 (d:=d) (ty:=ty) (pos:=pos) (after:=after) (l:=l) (ts:=ts) Fi w hv (gd:=gd);rw[Array.append_empty] at iS;refine .inr ⟨f',_,iS,(hc g.lim w _ (hi.Fg.mono hi.base) (.of he h1 h2)).mono ?_⟩;rintro e w' ⟨v,r',dG,rfl,rfl,hr,Sv,hb,hl⟩;exact ⟨v,dG,rfl,.d _ _ hr,hb,hl⟩
theorem Inv.Vy {g:b8} {base:Nat} {w:uC} {st:St} (h:Inv g base w st) (e sz n:Nat) (vs:uD uB) (Fj:vs.size=n*sz) (hn:n<=maxLen) :
  ∃ g',g'.tk st.av.length=.slice (some ⟨w.heap.size,0,none⟩) n n/\Inv g' base (w.alloc (.cells vs e)) (st.tok ⟨e,sz,n,none⟩)/\Step base g w st g' (w.alloc (.cells vs e)) (st.tok ⟨e,sz,n,none⟩):=by
 obtain ⟨g',h1,_,_,h2,h3⟩:=h.um ⟨e,sz,n,none⟩ (v:=.slice (some ⟨w.heap.size,0,none⟩) n n) (xs:=vs.toList) ⟨by simp [Fj],.inr ⟨w.heap.size,n,vs,rfl,h.base,heap_alloc_new w _,zaq _,hn,Fj,by rw[zbz (by simp [Fj])]⟩⟩
  (.inr ⟨rfl,(Below.refl _ w).alloc (zaq _) _⟩) (λrows hh=>by cases hh)
 exact ⟨g',h1,h2,h3⟩
theorem Bb {base n sz:Nat} {inf:TypeInfo} {z:uB} {zs:O D} {rows:O (O D)} {l:O (Nat×uH)} (ht:P.underlying t=some (.slice e)) (hi:P.info? e=some inf) (gq:inf.size=sz) (hz:inf.zero=some z) (rU:Nat.beq z.cells.size sz=true)
  (zm:(Nat.ble (n*sz) 16777216 && Nat.blt 0 n && Nat.blt 0 sz)=true) (PH:cellsD (.d (cv z))=some zs) (hl:Fo (λi=>some (i*sz,sz)) env (List.replicate n zs).flatten l=some rows.flatten)
  (hr:(rows.all (λr=>Nat.beq r.length sz) && Nat.beq rows.length n)=true) :
  zj P base env st ⟨d,.buildSlice t n l.toArray,ty,pos,after,gd⟩ (.cm sz rows st.av.length) (st.tok ⟨e,sz,rows.length,none⟩):=by
 simp only[zat] at zm hr;have Iq:=zaw rU;have hn:=zaw hr.2;have N6:=jU zm.1.2;have N7:=jU zm.2;have hbg:=zaf zm.1.1;intro g w tmps hinv he;have BK:=mR (g:=g) (w:=w) (st:=st) PH (.d _ _ (rY _ _ z));have Sd:zs.length=sz:=by rw[←BK.1,Iq]
 have EO:(List.replicate n zs).flatten.length=n*sz:=by simp [Sd]
 have kS:∀ row∈rows,row.length=sz:=by
  intro row hm;have:=hr.1;rw[zbf] at this;exact zaw (this row hm)
 have tJ:Gu g.lim w (List.replicate n zs).flatten ((Array.range (n*sz)).map (z.cells[· % z.cells.size]!)):=by
  refine ⟨by simp [EO],λi c u hc hu=>?_⟩;have qU:i<n*sz:=by rw[←EO];exact (zae.1 hc).1
  have zn:i % sz<sz:=zen _ N7;have hdiv:i / sz<n:=zdx (by rw[zdr];exact qU);have Oo:i=i / sz*sz+i % sz:=by rw[zdr];exact (zew i sz).symm
  have hf:=mg (rows:=List.replicate n zs) (sz:=sz) (i:=i / sz) (j:=i % sz) (row:=zs) (c:=zs[i % sz]'(by omega)) (by intro row hm;rw[List.eq_of_mem_replicate hm];exact Sd) (by simp [List.getElem?_replicate,hdiv]) (zag (by omega));rw[←Oo,hc] at hf;have X7:zs[i % sz]?=some c:=by cases hf;exact zag (by omega)
  have huz:z.cells[i % sz]?=some u:=by
   have mI:i % sz<z.cells.size:=by omega
   have:((Array.range (n*sz)).map (z.cells[· % z.cells.size]!))[i]?=some (z.cells[i % z.cells.size]!):=by simp [qU]
   rw[this] at hu;cases hu;rw[Iq,zeb z.cells (i % sz) mI,zbi mI]
  exact BK.2 _ c u X7 huz
 obtain ⟨us,h1,h2,h3⟩:=u7 he l _ _ _ hl tJ;have Fl:=jT kS;have Sc:us.size=n*sz:=by rw[h2.1,Fl,hn]
 have hnm:n<=maxLen:=by
  have:n*1<=n*sz:=Nat.mul_le_mul_left n N7;simp only[maxLen];omega
 obtain ⟨g',k1,k2,k3⟩:=hinv.Vy e sz n us Sc hnm;have mJ:st.tok ⟨e,sz,rows.length,none⟩=st.tok ⟨e,sz,n,none⟩:=by rw[hn]
 rw[mJ];have fO:(st.tok ⟨e,sz,n,none⟩).av[st.av.length]?=some ⟨e,sz,n,none⟩:=by simp [St.tok]
 obtain ⟨xs,m1,m2⟩:=k2.tail _ _ _ _ fO;rw[k1] at m1 m2;have Vt:xs=us.toList:=by
  rcases m1.2 with ⟨hh,_⟩|⟨gb,cap,cur,e1,_,e3,e4,e5,e6,e7⟩
  ·cases hh
  ·cases e1;rw[heap_alloc_new] at e3;cases e3;rw[←e7,zbz (by simp [Sc])]
 subst Vt;refine ⟨_,g',_,?_,.cm sz rows _ _ e n (JX m1 hn kS (λb hb=>by rw[m2 b hb];exact zaq _) λj u c hu hc=>?_) fO (zga hn) (λ_=>.inl k1.symm),k2,k3⟩
 ·subst gq;have I8:¬ (16777216<n*inf.size):=by omega
  have qT:¬ n*inf.size=0:=by
   intro h0;rcases Nat.mul_eq_zero.1 h0 with h|h <;> omega
  have Gp:Instr.fill (λi=>some (i*inf.size,inf.size)) (Array.map (λx=>z.cells[x % z.cells.size]!) (Array.range (n*inf.size))) (List.map (λp=>(p.1,Act.eval ⟨tmps,[]⟩ p.2)) l)=some us:=h1;simp [execOp,Instr.buildSlice,run_underlying ht,qo hi,I8,qT,u9 hi hz,Gp,newRow]
 ·have:=h2.2 j c u hc (by simpa using hu);exact ⟨this.1.mono k3.dZ.df,this.2⟩
end b
def dw (rs:List Nat) (N i:Nat):Nat:=match rs[i]? with
 | some r=>r
 | none=>N+(i-rs.length)
structure PN (rs:List Nat) (N:Nat):Prop where
 lt:∀ r,r∈rs->r<N
 inj:∀ (i j:Nat) (r:Nat),rs[i]?=some r->rs[j]?=some r->i=j
theorem DU {rs:O Nat} {N i:Nat} (h:PN rs N) (hi:i<rs.length):dw rs N i<N/\rs[i]?=some (dw rs N i):=by
 have e:rs[i]?=some rs[i]:=zag hi;unfold dw;rw[e];exact ⟨h.lt _ (zfh hi),rfl⟩
theorem BP {rs:O Nat} {N i:Nat} (hi:rs.length<=i):dw rs N i=N+(i-rs.length):=by
 unfold dw;rw[zbq hi]
theorem J8 {rs:O Nat} {N i j:Nat} (h:PN rs N) (e:dw rs N i=dw rs N j):i=j:=by
 by_cases hi:i<rs.length <;> by_cases hj:j<rs.length
 ·obtain ⟨_,h1⟩:=DU h hi;obtain ⟨_,h2⟩:=DU h hj;rw[e] at h1;exact h.inj i j _ h1 h2
 ·obtain ⟨h1,_⟩:=DU h hi;rw[BP (i:=j) (by omega)] at e;omega
 ·obtain ⟨h1,_⟩:=DU h hj;rw[BP (i:=i) (by omega)] at e;omega
 ·rw[BP (i:=i) (by omega),BP (i:=j) (by omega)] at e;omega
open Classical in
noncomputable def jN (rs:List Nat) (N o:Nat):Option Nat:=if h:∃ i,dw rs N i=o then some h.choose else none
theorem FR {rs:O Nat} {N:Nat} (h:PN rs N) (i:Nat):jN rs N (dw rs N i)=some i:=by
 have hex:∃ j,dw rs N j=dw rs N i:=⟨i,rfl⟩;unfold jN;rw[dif_pos hex];congr 1;exact J8 h hex.choose_spec
theorem GF {rs:O Nat} {N o i:Nat} (e:jN rs N o=some i):dw rs N i=o:=by
 unfold jN at e;split at e
 ·rename_i hex;cases e;exact hex.choose_spec
 ·cases e
theorem L4 {rs:O Nat} {N o:Nat} (e:jN rs N o=none):o<N/\∀ i,dw rs N i≠o:=by
 unfold jN at e;split at e
 ·cases e
 ·rename_i hex;refine ⟨?_,λi hi=>hex ⟨i,hi⟩⟩
  false_or_by_contra
  rename_i cT;exact hex ⟨rs.length+(o-N),by rw[BP (by omega)];omega⟩
theorem Ja {rs:O Nat} {N o i:Nat} (h:PN rs N) (e:jN rs N o=some i) (ho:o<N):i<rs.length:=by
 have:=GF e
 false_or_by_contra
 rw[BP (by omega)] at this;omega
def mS {α:Type}:List α->List Nat->List α->List α
 | l,r::rs,x::xs=>mS (l.set r x) rs xs
 | l,_,xs=>l++xs
theorem BQ {α:Type}:∀ (rs:O Nat) (l xs:O α),rs.length<=xs.length->(mS l rs xs).length=l.length+(xs.length-rs.length)
 | [],l,xs,_=>by simp [mS]
 | r::rs,l,[],h=>by simp at h
 | r::rs,l,x::xs,h=>by
  simp only[mS];rw[BQ rs _ xs (by simpa using h)];simp
theorem uv {α:Type}:∀ (rs:O Nat) (l xs:O α) (o:Nat),o<l.length->o ∉ rs->(mS l rs xs)[o]?=l[o]?
 | [],l,xs,o,ho,_=>by simp [mS,zap ho]
 | r::rs,l,[],o,ho,_=>by simp [mS]
 | r::rs,l,x::xs,o,ho,hn=>by
  simp only[mS];simp only[zan,not_or] at hn;rw[uv rs _ xs o (by simpa using ho) hn.2,zbm,zaa (zcl hn.1)]
theorem BR {α:Type}:∀ (rs:O Nat) (l xs:O α) (N:Nat),l.length=N->PN rs N->rs.length<=xs.length->∀ i,(mS l rs xs)[dw rs N i]?=xs[i]?
 | [],l,xs,N,hN,_,_,i=>by
  rw[BP (by simp)];simp only[mS,zas,Nat.sub_zero,←hN];rw[zax (by omega)];simp
 | r::rs,l,[],N,hN,_,h,i=>by simp at h
 | r::rs,l,x::xs,N,hN,he,h,i=>by
  have Ck:PN rs N:=⟨λr hr=>he.lt r (by simp [hr]),λi j r a b=>by
   have:=he.inj (i+1) (j+1) r (by simpa using a) (by simpa using b);omega⟩
  have hr:r<N:=he.lt r (by simp);have hnr:r ∉ rs:=λhm=>by
   obtain ⟨j,hj⟩:=zdj.1 hm;have:=he.inj 0 (j+1) r (by simp) (by simpa using hj);omega
  simp only[mS];cases i with
  | zero =>
   have:dw (r::rs) N 0=r:=by simp [dw]
   rw[this,uv rs _ xs r (by simpa [hN] using hr) hnr];simp [zbm,hN,hr]
  | succ i =>
   have:dw (r::rs) N (i+1)=dw rs N i:=by
    unfold dw;simp only[List.getElem?_cons_succ,zad];split
    ·rfl
    ·omega
   rw[this,BR rs _ xs N (by simpa using hN) Ck (by simpa using h) i];simp
def Ra (rs:List Nat) (N:Nat):Bool:=rs.all (λr=>Nat.blt r N) && nodupB rs
where nodupB:List Nat->Bool
 | []=>true
 | r::rs=>rs.all (λx=>!Nat.beq x r) && nodupB rs
theorem PN.of {rs:O Nat} {N:Nat} (h:Ra rs N=true):PN rs N:=by
 simp only[Ra,zat,zbf] at h;refine ⟨λr hr=>jU (h.1 r hr),?_⟩;have key:∀ (l:O Nat),Ra.nodupB l=true->∀ (i j:Nat) (r:Nat),l[i]?=some r->l[j]?=some r->i=j:=by
  intro l
  induction l with
  | nil=>intro _ i j r hi;simp at hi
  | cons x l ih =>
   intro hn i j r hi hj;simp only[Ra.nodupB,zat,zbf] at hn;cases i with
   | zero =>
    cases j with
    | zero=>rfl
    | succ j =>
     simp at hi hj;subst hi;have:=hn.1 x (zbj hj);simp at this
   | succ i =>
    cases j with
    | zero =>
     simp at hi hj;subst hj;have:=hn.1 x (zbj hi);simp at this
    | succ j =>
     have:=ih hn.2 i j r (by simpa using hi) (by simpa using hj);omega
 exact key rs h.2
section ren
def EV.ren (ρ τ:Nat->Nat):EV->EV
 | .d x=>.d x
 | .ref o off=>.ref (ρ o) off
 | .Lq o off n c=>.Lq (ρ o) off n c
 | .cm sz rows t=>.cm sz rows (τ t)
 | .mp o=>.mp (ρ o)
 | .vc t k=>.vc (τ t) k
 | .vp t k i off=>.vp (τ t) k i off
 | .vw t k lo n=>.vw (τ t) k lo n
 | .u0 f cs=>.u0 f (J9 ρ τ cs)
 | .agg cs=>.agg (J9 ρ τ cs)
 | .dN cs=>.dN (J9 ρ τ cs)
 | .gd b x=>.gd b (EV.ren ρ τ x)
where
 J9 (ρ τ:Nat->Nat):List EV->List EV
 | []=>[]
 | x::l=>EV.ren ρ τ x::J9 ρ τ l
theorem pX (ρ τ:Nat->Nat):∀ l:O EV,EV.ren.J9 ρ τ l=l.map (EV.ren ρ τ)
 | []=>rfl
 | x::l=>by simp [EV.ren.J9,pX ρ τ l]
def dU.ren (ρ τ:Nat->Nat):dU->dU
 | .row ty cs=>.row ty (EV.ren.J9 ρ τ cs)
 | .map es=>.map (es.map λp=>(p.1,p.2.ren ρ τ))
 | .raw x=>.raw x
 | .gone=>.gone
theorem dU.SS {ρ τ:Nat->Nat} {x:dU} (h:x.ren ρ τ=.gone):x=.gone:=by cases x <;> first|rfl|cases h
def b8.sub (g:b8) (ρ τ:Nat->Nat):b8:=⟨g.lim,λo=>g.ob (ρ o),λt=>g.tk (τ t)⟩
variable {ρ τ:Nat->Nat} {g g':b8} {w:uC} {s0 st:St}
theorem bP.down (ht:∀ t x,s0.av[t]?=some x->st.av[τ t]?=some x):∀ {x:EV} {v:uB},qZ s0.aS.length s0.av.length x=true->bP g w st (x.ren ρ τ) v->bP (g.sub ρ τ) w s0 x v:=by
 have xR:∀ {t:Nat},t<s0.av.length->∀ {x:iR},st.av[τ t]?=some x->s0.av[t]?=some x:=fun {t} cT {x} hx=>by
  have h1:=ht t _ (zag cT);rw[hx] at h1;cases h1;exact zag cT
 have main:∀ {y:EV} {v:uB},bP g w st y v->∀ x:EV,qZ s0.aS.length s0.av.length x=true->y=x.ren ρ τ->bP (g.sub ρ τ) w s0 x v:=by
  intro y v h
  induction h with
  | d a v h =>
   intro x hx e;cases x <;> simp only[EV.ren] at e <;> cases e;exact .d _ _ h
  | ref o off h =>
   intro x hx e;cases x <;> simp only[EV.ren] at e <;> cases e;exact .ref (g:=g.sub ρ τ) _ _ (jU hx)
  | Lq o off n c h =>
   intro x hx e;cases x <;> simp only[EV.ren] at e <;> cases e;exact .Lq (g:=g.sub ρ τ) _ _ _ _ (jU hx)
  | cm sz rows t v el n hd tK hn hv =>
   intro x hx e;cases x <;> simp only[EV.ren] at e <;> cases e;exact .cm sz rows _ v el n hd (xR (jU hx) tK) hn hv
  | mp o h =>
   intro x hx e;cases x <;> simp only[EV.ren] at e <;> cases e;exact .mp (g:=g.sub ρ τ) _ (jU hx)
  | u0 f cs vs hs h ih =>
   intro x hx e;cases x <;> simp only[EV.ren] at e <;> cases e;rename_i ds;simp only[qZ] at hx;rw[pX] at hs ih;refine .u0 f _ vs (by simpa using hs) λi c u hc hu=>ih i (c.ren ρ τ) u (by rw[zbe,hc];rfl) hu c (r7 hx i c hc) rfl
  | agg cs vs hs h1 h ih =>
   intro x hx e;cases x <;> simp only[EV.ren] at e <;> cases e;simp only[qZ] at hx;rw[pX] at hs ih;refine .agg _ vs (by simpa using hs) h1 λi c u hc hu=>ih i (c.ren ρ τ) u (by rw[zbe,hc];rfl) hu c (r7 hx i c hc) rfl
  | dN cs vs hs h ih =>
   intro x hx e;cases x <;> simp only[EV.ren] at e <;> cases e;simp only[qZ] at hx;rw[pX] at hs ih;refine .dN _ vs (by simpa using hs) λi c u hc hu=>ih i (c.ren ρ τ) u (by rw[zbe,hc];rfl) hu c (r7 hx i c hc) rfl
  | gd b a v h0 h ih =>
   intro x hx e;cases x <;> simp only[EV.ren] at e <;> cases e;simp only[qZ] at hx;exact .gd _ _ v h0 λhb=>ih hb _ hx rfl
  | vc t k v tK hf h =>
   intro x hx e;cases x <;> simp only[EV.ren] at e <;> cases e;exact .vc _ _ v (jU hx) hf λx rows hy=>h x rows (ht _ _ hy)
  | vp t k i off v tK hf h =>
   intro x hx e;cases x <;> simp only[EV.ren] at e <;> cases e;exact .vp _ _ _ _ v (jU hx) hf λx rows hy=>h x rows (ht _ _ hy)
  | vw t k lo n v tK hf h =>
   intro x hx e;cases x <;> simp only[EV.ren] at e <;> cases e;exact .vw _ _ _ _ v (jU hx) hf λx rows hy=>h x rows (ht _ _ hy)
 intro x v hx h;exact main h x hx rfl
theorem bP.up {g1:b8} {s1:St} (Ct:∀ o,o<s1.aS.length->g'.ob (ρ o)=g1.ob o/\ρ o<st.aS.length) (BI:g'.lim=g1.lim)
  (ht:∀ t,t<s1.av.length->st.av[τ t]?=s1.av[t]?/\g'.tk (τ t)=g1.tk t) {x:EV} {v:uB} (h:bP g1 w s1 x v):bP g' w st (x.ren ρ τ) v:=by
 have cT:∀ {t:Nat},t<s1.av.length->τ t<st.av.length:=fun {t} h=>by
  have h1:=(ht t h).1;rw[zag h] at h1;exact (zae.1 h1).1
 induction h with
 | d a v h=>exact .d _ _ (by rw[BI];exact h)
 | ref o off h=>rw[←(Ct o h).1];exact .ref _ _ (Ct o h).2
 | Lq o off n c h=>rw[←(Ct o h).1];exact .Lq _ _ _ _ (Ct o h).2
 | cm sz rows t v el n hd tK hn hv =>
  have hl:=(zae.1 tK).1;exact .cm sz rows _ v el n (by rw[BI];exact hd) (by rw[(ht t hl).1];exact tK) hn (by rw[(ht t hl).2];exact hv)
 | mp o h=>rw[←(Ct o h).1];exact .mp _ (Ct o h).2
 | u0 f cs vs hs h ih =>
  simp only[EV.ren,pX];refine .u0 f _ vs (by simpa using hs) λi c u hc hu=>?_
  rw[zbe] at hc;obtain ⟨c',h1,rfl⟩:=zcn.1 hc;exact ih i c' u h1 hu
 | agg cs vs hs h1 h ih =>
  simp only[EV.ren,pX];refine .agg _ vs (by simpa using hs) h1 λi c u hc hu=>?_
  rw[zbe] at hc;obtain ⟨c',h1,rfl⟩:=zcn.1 hc;exact ih i c' u h1 hu
 | dN cs vs hs h ih =>
  simp only[EV.ren,pX];refine .dN _ vs (by simpa using hs) λi c u hc hu=>?_
  rw[zbe] at hc;obtain ⟨c',h1,rfl⟩:=zcn.1 hc;exact ih i c' u h1 hu
 | gd b a v h0 h ih=>exact .gd _ _ v h0 ih
 | vc t k v tK hf h=>exact .vc _ _ v (cT tK) hf λx rows hx=>by rw[(ht t tK).1] at hx;rw[(ht t tK).2];exact h x rows hx
 | vp t k i off v tK hf h=>exact .vp _ _ _ _ v (cT tK) hf λx rows hx=>by rw[(ht t tK).1] at hx;rw[(ht t tK).2];exact h x rows hx
 | vw t k lo n v tK hf h=>exact .vw _ _ _ _ v (cT tK) hf λx rows hx=>by rw[(ht t tK).1] at hx;rw[(ht t tK).2];exact h x rows hx
structure Part (ρ τ:Nat->Nat) (s0 st:St):Prop where
 aS:∀ (o:Nat) (x:dU),s0.aS[o]?=some x->st.aS[ρ o]?=some (x.ren ρ τ)
 av:∀ (t:Nat) (x:iR),s0.av[t]?=some x->st.av[τ t]?=some x
 oinj:∀ o o',ρ o=ρ o'->o=o'
 tinj:∀ t t',τ t=τ t'->t=t'
 ok:∀ (o:Nat) (x:dU),s0.aS[o]?=some x->mh s0.aS.length s0.av.length x=true
theorem Part.live (h:Part ρ τ s0 st) {o:Nat} (hl:s0.live o):st.live (ρ o):=by
 obtain ⟨x,hx,fK⟩:=hl;exact ⟨_,h.aS o x hx,λe=>fK (dU.SS e)⟩
theorem Part.owned (h:Part ρ τ s0 st) {b:Nat} (ho:vU (g.sub ρ τ) s0 b):vU g st b:=by
 rcases ho with ⟨o,h1,h2⟩|⟨t,x,h1,h2⟩
 ·exact .inl ⟨ρ o,h.live h1,h2⟩
 ·exact .inr ⟨τ t,x,h.av t x h1,h2⟩
theorem Inv.part {base:Nat} (h:Inv g base w st) (p:Part ρ τ s0 st):Inv (g.sub ρ τ) base w s0:=by
 refine ⟨h.base,λo ty cs hx=>?_,λo es hx=>?_,λo y hx=>h.raw (ρ o) y (p.aS o _ hx),λo o' fK h1 h2=>h.ne _ _ (λe=>fK (p.oinj o o' e)) (p.live h1) (p.live h2),λt e sz n hx=>h.tail (τ t) e sz n (p.av t _ hx),
  λt t' x x' b fK h1 h2=>h.pJ _ _ x x' b (λe=>fK (p.tinj t t' e)) (p.av t _ h1) (p.av t' _ h2),λt x o h1 h2=>h.jD _ x _ (p.av t _ h1) (p.live h2),h.Fg,λt e sz n rows hx=>h.own (τ t) e sz n rows (p.av t _ hx)⟩
 ·have ho:=p.ok o _ hx;simp only[mh,zbf] at ho;have lO:=p.aS o _ hx;simp only[dU.ren,pX] at lO;obtain ⟨h1,h2,vs,h3,h4,h5⟩:=h.row (ρ o) ty _ lO;refine ⟨h1,h2,vs,h3,by simpa using h4,λi c u hc hu=>?_⟩;have:=h5 i (c.ren ρ τ) u (by rw[zbe,hc];rfl) hu;exact ⟨this.1.down p.av (ho c (zbj hc)),this.2⟩
 ·have ho:=p.ok o _ hx;simp only[mh,zbf] at ho;have lO:=p.aS o _ hx;simp only[dU.ren] at lO;obtain ⟨h1,ms,c,h3,h4,h5,h6⟩:=h.map (ρ o) _ lO;refine ⟨h1,ms,c,h3,by simpa using h4,λi k x m hm yJ=>?_,h6⟩;have:=h5 i k (x.ren ρ τ) m (by rw[zbe,hm];rfl) yJ;exact ⟨this.1,this.2.down p.av (ho (k,x) (zbj hm))⟩
end ren
def cF (st s1:St) (rs ts:List Nat):St :=
 ⟨mS st.aS rs (s1.aS.map (dU.ren (dw rs st.aS.length) (dw ts st.av.length))),mS st.av ts s1.av⟩
theorem Inv.Rb {g g1:b8} {w w1:uC} {base:Nat} {st s0 s1:St} {rs ts:List Nat} (h:Inv g base w st) (hr:PN rs st.aS.length) (ht:PN ts st.av.length)
  (hlr:rs.length=s0.aS.length) (cT:ts.length=s0.av.length)
  (p:Part (dw rs st.aS.length) (dw ts st.av.length) s0 st) (h1:Inv g1 base w1 s1) (hs:Step base (g.sub (dw rs st.aS.length) (dw ts st.av.length)) w s0 g1 w1 s1) :
  ∃ g',Inv g' base w1 (cF st s1 rs ts)/\Step base g w st g' w1 (cF st s1 rs ts) /\
   ∀ x v,bP g1 w1 s1 x v->bP g' w1 (cF st s1 rs ts) (x.ren (dw rs st.aS.length) (dw ts st.av.length)) v:=by
 have AN:rs.length<=s1.aS.length:=by rw[hlr];exact hs.dZ.aS
 have CF:ts.length<=s1.av.length:=by rw[cT];exact hs.dZ.Og
 generalize hN:st.aS.length=N at *;generalize hM:st.av.length=M at *;generalize hρ:dw rs N=ρ at *;generalize hτ:dw ts M=τ at *;have Yq:cF st s1 rs ts=⟨mS st.aS rs (s1.aS.map (dU.ren ρ τ)),mS st.av ts s1.av⟩:=by unfold cF;rw[hN,hM,hρ,hτ]
 rw[Yq];generalize hS:(⟨mS st.aS rs (s1.aS.map (dU.ren ρ τ)),mS st.av ts s1.av⟩:St)=S;have hSo:∀ i,S.aS[ρ i]?=(s1.aS[i]?).map (dU.ren ρ τ):=λi=>by
  rw[←hS,←hρ];simp only;rw[BR rs _ _ N hN hr (by simpa using AN) i,zbe,hρ]
 have Vz:∀ i,S.av[τ i]?=s1.av[i]?:=λi=>by
  rw[←hS,←hτ];exact BR ts _ _ M hM ht CF i
 have VA:∀ o,jN rs N o=none->S.aS[o]?=st.aS[o]?:=λo ho=>by
  obtain ⟨k1,k2⟩:=L4 ho;rw[←hS];exact uv rs _ _ o (by rw[hN];exact k1) λhm=>by
   obtain ⟨j,hj⟩:=zdj.1 hm;refine k2 j ?_;simp [dw,hj]
 have Ka:∀ t,jN ts M t=none->S.av[t]?=st.av[t]?:=λt ho=>by
  obtain ⟨k1,k2⟩:=L4 ho;rw[←hS];exact uv ts _ _ t (by rw[hM];exact k1) λhm=>by
   obtain ⟨j,hj⟩:=zdj.1 hm;refine k2 j ?_;simp [dw,hj]
 have hSl:N<=S.aS.length:=by rw[←hS,←hN];show _<=(mS _ _ _).length;rw[BQ rs _ _ (by simpa using AN)];omega
 have hSlt:M<=S.av.length:=by rw[←hS,←hM];show _<=(mS _ _ _).length;rw[BQ ts _ _ CF];omega
 let g':b8:=⟨g1.lim,λo=>match jN rs N o with|some i=>g1.ob i|none=>g.ob o,λt=>match jN ts M t with|some i=>g1.tk i|none=>g.tk t⟩
 have SU:∀ i,g'.ob (ρ i)=g1.ob i:=λi=>by
  show (match jN rs N (ρ i) with|some i=>g1.ob i|none=>g.ob (ρ i))=_;rw[←hρ,FR hr i]
 have Va:∀ i,g'.tk (τ i)=g1.tk i:=λi=>by
  show (match jN ts M (τ i) with|some i=>g1.tk i|none=>g.tk (τ i))=_;rw[←hτ,FR ht i]
 have It:∀ o,jN rs N o=none->g'.ob o=g.ob o:=λo ho=>by
  show (match jN rs N o with|some i=>g1.ob i|none=>g.ob o)=_;rw[ho]
 have Kb:∀ t,jN ts M t=none->g'.tk t=g.tk t:=λt ho=>by
  show (match jN ts M t with|some i=>g1.tk i|none=>g.tk t)=_;rw[ho]
 have GG:∀ {o i:Nat},jN rs N o=some i->o=ρ i:=fun {o i} e=>by rw[←hρ];exact (GF e).symm
 have Kc:∀ {t i:Nat},jN ts M t=some i->t=τ i:=fun {t i} e=>by rw[←hτ];exact (GF e).symm
 have up:∀ {x:EV} {v:uB},bP g1 w1 s1 x v->bP g' w1 S (x.ren ρ τ) v:=fun {x v} hx=>by
  refine bP.up (λo ho=>⟨SU o,?_⟩) rfl (λt ht=>⟨Vz t,Va t⟩) hx;have e:=hSo o;rw[zag ho] at e;exact (zae.1 e).1
 -- what the call does not own
 have L5:∀ b,b<w.heap.size->¬ vU (g.sub ρ τ) s0 b->w1.heap[b]?=w.heap[b]?/\g1.lim b=g.lim b:=hs.frame;have Jb:∀ b,b<w.heap.size->vU g1 s1 b->vU (g.sub ρ τ) s0 b:=hs.fresh;have uo:∀ o,jN rs N o=none->st.live o->g.ob o<w.heap.size/\¬ vU (g.sub ρ τ) s0 (g.ob o):=λo ho hl=>by
  refine ⟨(h.xJ hl).1,λhw=>?_⟩;rcases hw with ⟨i,a1,a2⟩|⟨t,x,a1,a2⟩
  ·have fK:ρ i≠o:=λe=>by rw[←e,←hρ,FR hr i] at ho;cases ho
   exact h.ne _ _ fK (p.live a1) hl a2
  ·exact h.jD _ x o (p.av t x a1) hl a2
 have ut:∀ t x b,jN ts M t=none->st.av[t]?=some x->(g.tk t).ownBlock=some b->b<w.heap.size/\¬ vU (g.sub ρ τ) s0 b:=λt x b ho hx hb=>by
  refine ⟨(h.xH hx hb).2,λhw=>?_⟩;rcases hw with ⟨i,a1,a2⟩|⟨i,y,a1,a2⟩
  ·exact h.jD t x _ hx (p.live a1) (by rw[hb];exact zbn some a2.symm)
  ·have fK:τ i≠t:=λe=>by rw[←e,←hτ,FR ht i] at ho;cases ho
   exact h.pJ _ _ y x b fK (p.av i y a1) hx a2 hb
 have s0o:∀ {o i:Nat},jN rs N o=some i->o<N->i<s0.aS.length:=fun {o i} e ho=>by rw[←hlr];exact Ja hr e ho
 have s0t:∀ {t i:Nat},jN ts M t=some i->t<M->i<s0.av.length:=fun {t i} e ho=>by rw[←cT];exact Ja ht e ho
 have Yr:∀ {i:Nat},i<s0.av.length->∀ {x:iR},st.av[τ i]?=some x->s0.av[i]?=some x:=fun {i} hi {x} hx=>by
  have e:=p.av i _ (zag hi);rw[hx] at e;cases e;exact zag hi
 have VB:wo g w st g' w1 S:=by
  refine ⟨hs.dZ.df,λo ho=>?_,by rw[hN];exact hSl,λt e sz n hx=>?_,by rw[hM];exact hSlt,λt x' bE mI hx ho=>?_⟩
  ·cases hi:jN rs N o with
   | none=>exact It o hi
   | some i =>
    have:=GG hi;subst this;rw[SU,hs.dZ.ob i (s0o hi (by omega))];rfl
  ·cases hi:jN ts M t with
   | none=>exact ⟨n,by rw[Ka t hi];exact hx,zaq _,λ_=>Kb t hi⟩
   | some i =>
    have:=Kc hi;subst this;have ia:=s0t hi (by rw[←hM];exact (zae.1 hx).1);obtain ⟨n',a1,a2,a3⟩:=hs.dZ.av i e sz n (Yr ia hx);exact ⟨n',by rw[Vz];exact a1,a2,λe'=>by rw[Va,a3 e'];rfl⟩
  ·cases hi:jN ts M t with
   | none =>
    rw[Ka t hi] at hx;exact ⟨x',bE,hx,ho,rfl,zaq _,λ_=>Kb t hi⟩
   | some i =>
    have:=Kc hi;subst this;have ia:=s0t hi (by omega);rw[Vz] at hx;obtain ⟨x,rows,a1,a2,a3,a4,a5⟩:=hs.dZ.own i x' bE ia hx ho;exact ⟨x,rows,p.av i x a1,a2,a3,a4,λe'=>by rw[Va,a5 e'];rfl⟩
 have pT:∀ {o i:Nat},jN rs N o=some i->S.live o->s1.live i:=fun {o i} hi ⟨x,hx,fK⟩=>by
  have:=GG hi;subst this;rw[hSo] at hx;obtain ⟨y,hy,rfl⟩:=zcn.1 hx;exact ⟨y,hy,λe=>fK (by subst e;rfl)⟩
 have DV:∀ {o:Nat},jN rs N o=none->S.live o->st.live o:=fun {o} hi ⟨x,hx,fK⟩=>⟨x,by rw[VA o hi] at hx;exact hx,fK⟩;refine ⟨g',⟨h1.base,?_,?_,?_,?_,?_,?_,?_,h1.Fg,?_⟩,⟨VB,hs.below,hs.lim,λb hb hn=>L5 b hb λhw=>hn (p.owned hw),λb hb hw=>?_⟩,λx v hx=>up hx⟩
 ·intro o ty cs hx;cases hi:jN rs N o with
  | none =>
   rw[VA o hi] at hx;obtain ⟨k1,k2,vs,k3,k4,k5⟩:=h.row o ty cs hx;obtain ⟨u1,u2⟩:=uo o hi ⟨_,hx,by simp⟩;obtain ⟨f1,f2⟩:=L5 _ u1 u2;rw[It o hi];exact ⟨k1,f2.trans k2,vs,f1.trans k3,k4,λi c u hc hu=>⟨(k5 i c u hc hu).1.mono VB,(k5 i c u hc hu).2⟩⟩
  | some i =>
   have:=GG hi;subst this;rw[hSo] at hx;obtain ⟨y,hy,hyr⟩:=zcn.1 hx;cases y <;> simp only[dU.ren] at hyr <;> cases hyr;obtain ⟨k1,k2,vs,k3,k4,k5⟩:=h1.row i ty _ hy;rw[SU];refine ⟨k1,k2,vs,k3,by rw[pX];simpa using k4,λj c u hc hu=>?_⟩
   rw[pX,zbe] at hc;obtain ⟨c',tH,rfl⟩:=zcn.1 hc;exact ⟨up (k5 j c' u tH hu).1,(k5 j c' u tH hu).2⟩
 ·intro o es hx;cases hi:jN rs N o with
  | none =>
   rw[VA o hi] at hx;obtain ⟨k1,ms,c,k3,k4,k5,k6⟩:=h.map o es hx;obtain ⟨u1,u2⟩:=uo o hi ⟨_,hx,by simp⟩;obtain ⟨f1,f2⟩:=L5 _ u1 u2;rw[It o hi];exact ⟨k1,ms,c,f1.trans k3,k4,λi k x m a b=>⟨(k5 i k x m a b).1,(k5 i k x m a b).2.mono VB⟩,k6⟩
  | some i =>
   have:=GG hi;subst this;rw[hSo] at hx;obtain ⟨y,hy,hyr⟩:=zcn.1 hx;cases y <;> simp only[dU.ren] at hyr <;> cases hyr;obtain ⟨k1,ms,c,k3,k4,k5,k6⟩:=h1.map i _ hy;rw[SU];refine ⟨k1,ms,c,k3,by simpa using k4,λj k x m hm yJ=>?_,k6⟩;rw[zbe] at hm;obtain ⟨q,hq,hqe⟩:=zcn.1 hm;cases hqe;have:=k5 j q.1 q.2 m hq yJ;exact ⟨this.1,up this.2⟩
 ·intro o y hx;cases hi:jN rs N o with
  | none =>
   rw[VA o hi] at hx;obtain ⟨k1,k2,k3⟩:=h.raw o y hx;obtain ⟨u1,u2⟩:=uo o hi ⟨_,hx,by simp⟩;obtain ⟨f1,f2⟩:=L5 _ u1 u2;rw[It o hi];exact ⟨k1,f2.trans k2,f1.trans k3⟩
  | some i =>
   have:=GG hi;subst this;rw[hSo] at hx;obtain ⟨z,hz,PH⟩:=zcn.1 hx;cases z <;> simp only[dU.ren] at PH <;> cases PH;rw[SU];exact h1.raw i _ hz
 ·intro o o' fK ho oc;have L6:∀ {a b i:Nat},jN rs N a=some i->jN rs N b=none->S.live a->S.live b->g'.ob a≠g'.ob b:=fun {a b i} ha hb la lb e=>by
   have:=GG ha;subst this;rw[SU,It b hb] at e;obtain ⟨u1,u2⟩:=uo b hb (DV hb lb);exact u2 (Jb _ u1 (.inl ⟨i,pT ha la,e⟩))
  cases hi:jN rs N o with
  | none =>
   cases hj:jN rs N o' with
   | none=>rw[It o hi,It o' hj];exact h.ne o o' fK (DV hi ho) (DV hj oc)
   | some j=>exact (L6 hj hi oc ho).symm
  | some i =>
   cases hj:jN rs N o' with
   | none=>exact L6 hi hj ho oc
   | some j =>
    have l1:=pT hi ho;have l2:=pT hj oc;have:=GG hi;subst this;have:=GG hj;subst this;rw[SU,SU];exact h1.ne i j (λe=>fK (by rw[e])) l1 l2
 ·intro t e sz n hx;cases hi:jN ts M t with
  | none =>
   rw[Ka t hi] at hx;obtain ⟨xs,k1,k2⟩:=h.tail t e sz n hx;rw[Kb t hi];exact ⟨xs,fZ k1 λb hb=>(L5 b (ut t _ b hi hx hb).1 (ut t _ b hi hx hb).2).1,λb hb=>by rw[←k2 b hb];exact (L5 b (ut t _ b hi hx hb).1 (ut t _ b hi hx hb).2).2⟩
  | some i =>
   have:=Kc hi;subst this;rw[Vz] at hx;rw[Va];exact h1.tail i e sz n hx
 ·intro t t' x x' b fK hx lO hb;have L6:∀ {a c i:Nat} {x x':iR},jN ts M a=some i->jN ts M c=none->S.av[a]?=some x->S.av[c]?=some x'->(g'.tk a).ownBlock=some b->(g'.tk c).ownBlock=some b->False:=fun {a c i x x'} ha hc la lc ea ec=>by
   have:=Kc ha;subst this;rw[Va] at ea;rw[Kb c hc] at ec;rw[Vz] at la;rw[Ka c hc] at lc;obtain ⟨u1,u2⟩:=ut c _ b hc lc ec;exact u2 (Jb b u1 (.inr ⟨i,_,la,ea⟩))
  cases hi:jN ts M t with
  | none =>
   cases hj:jN ts M t' with
   | none =>
    rw[Kb t hi] at hb;rw[Kb t' hj];rw[Ka t hi] at hx;rw[Ka t' hj] at lO;exact h.pJ t t' x x' b fK hx lO hb
   | some j=>exact λmc=>L6 hj hi lO hx mc hb
  | some i =>
   cases hj:jN ts M t' with
   | none=>exact λmc=>L6 hi hj hx lO hb mc
   | some j =>
    have:=Kc hi;subst this;have:=Kc hj;subst this;rw[Va] at hb;rw[Va];rw[Vz] at hx lO;exact h1.pJ i j x x' b (λe=>fK (by rw[e])) hx lO hb
 ·intro t x o hx ho hb;cases hi:jN ts M t with
  | none =>
   rw[Kb t hi] at hb;rw[Ka t hi] at hx;cases hj:jN rs N o with
   | none =>
    rw[It o hj] at hb;exact h.jD t x o hx (DV hj ho) hb
   | some j =>
    have l2:=pT hj ho;have:=GG hj;subst this;rw[SU] at hb;obtain ⟨u1,u2⟩:=ut t _ _ hi hx hb;exact u2 (Jb _ u1 (.inl ⟨j,l2,rfl⟩))
  | some i =>
   have:=Kc hi;subst this;rw[Va] at hb;rw[Vz] at hx;cases hj:jN rs N o with
   | none =>
    rw[It o hj] at hb;obtain ⟨u1,u2⟩:=uo o hj (DV hj ho);exact u2 (Jb _ u1 (.inr ⟨i,_,hx,hb⟩))
   | some j =>
    have l2:=pT hj ho;have:=GG hj;subst this;rw[SU] at hb;exact h1.jD i x j hx l2 hb
 ·intro t e sz n rows hx;cases hi:jN ts M t with
  | none =>
   rw[Ka t hi] at hx;obtain ⟨xs,k1,k2,k3⟩:=h.own t e sz n rows hx;rw[Kb t hi];exact ⟨xs,fZ k1 λb hb=>(L5 b (ut t _ b hi hx hb).1 (ut t _ b hi hx hb).2).1,λb hb=>by rw[←k2 b hb];exact (L5 b (ut t _ b hi hx hb).1 (ut t _ b hi hx hb).2).2,k3.mono VB.df⟩
  | some i =>
   have:=Kc hi;subst this;rw[Vz] at hx;rw[Va];exact h1.own i e sz n rows hx
 ·rcases hw with ⟨o,a1,a2⟩|⟨t,x,a1,a2⟩
  ·cases hi:jN rs N o with
   | none=>exact .inl ⟨o,DV hi a1,by rw[←It o hi];exact a2⟩
   | some i =>
    have l1:=pT hi a1;have:=GG hi;subst this;rw[SU] at a2;exact p.owned (Jb b hb (.inl ⟨i,l1,a2⟩))
  ·cases hi:jN ts M t with
   | none =>
    rw[Kb t hi] at a2;rw[Ka t hi] at a1;exact .inr ⟨t,x,a1,a2⟩
   | some i =>
    have:=Kc hi;subst this;rw[Va] at a2;rw[Vz] at a1;exact p.owned (Jb b hb (.inr ⟨i,x,a1,a2⟩))
def xS:List EV->List EV->Prop
 | [],[]=>True
 | e::es,x::xs=>eC e x/\xS es xs
 | _,_=>False
theorem xS.get:∀ {es xs:O EV},xS es xs->es.length=xs.length/\∀ (i:Nat) x,xs[i]?=some x->∃ e,es[i]?=some e/\eC e x
 | [],[],_=>⟨rfl,λi y h=>by simp at h⟩
 | e::es,d::ds,h=>by
  obtain ⟨h1,h2⟩:=xS.get h.2;refine ⟨by simp [h1],λi z hz=>?_⟩;cases i with
  | zero=>simp at hz;subst hz;exact ⟨e,rfl,h.1⟩
  | succ i=>simpa using h2 i z (by simpa using hz)
 | [],_::_,h=>h.elim
 | _::_,[],h=>h.elim
theorem aN.le {P:uG} {f:FuncId} {es xs:O EV} {st:St} {q:EV->St->Prop} (h:aN P f xs st q) (hle:xS es xs):aN P f es st q:=by
 intro g w base vs hi ha;obtain ⟨h1,h2⟩:=hle.get;refine h g w base vs hi ⟨by rw[ha.1,h1],λi x v hx hv=>?_⟩;obtain ⟨e,he,hl⟩:=h2 i x hx;exact hl _ _ _ _ (ha.2 i e v he hv)
section call
variable {P:uG} {f:Ctx} {N:Nat} {S:Start} {Q:EV->St->Prop} {k:List Item} {env:Env} {st:St} {ops rest:List Oper}
 {d:Option Tmp} {ty:uE} {pos:String} {after:uD Edge}
def QE (x:EV) (st':St) (e:EV) (s:St):Prop:=eC e x/\s=st'
def Bc (rs ts:List Nat) (s0 st:St):Bool :=
 Ra rs st.aS.length && Ra ts st.av.length && Nat.beq rs.length s0.aS.length && Nat.beq ts.length s0.av.length
theorem Part.of {rs ts:O Nat} {s0 st:St} (h:Bc rs ts s0 st=true) (h5:s0.aS.all (mh s0.aS.length s0.av.length)=true)
  (ho:rs.map (λr=>st.aS[r]?)=s0.aS.map (λx=>some (x.ren (dw rs st.aS.length) (dw ts st.av.length)))) (ht:ts.map (λr=>st.av[r]?)=s0.av.map some) :
  Part (dw rs st.aS.length) (dw ts st.av.length) s0 st/\PN rs st.aS.length/\PN ts st.av.length/\rs.length=s0.aS.length/\ts.length=s0.av.length:=by
 simp only[Bc,zat] at h;rw[zbf] at h5;obtain ⟨⟨⟨h1,h2⟩,h3⟩,h4⟩:=h;have e1:=PN.of h1;have e2:=PN.of h2;have l1:=zaw h3;have l2:=zaw h4;refine ⟨⟨λo x hx=>?_,λt x hx=>?_,λo o' e=>J8 e1 e,λt t' e=>J8 e2 e,λo x hx=>h5 x (zbj hx)⟩,e1,e2,l1,l2⟩
 ·have cT:o<rs.length:=by rw[l1];exact (zae.1 hx).1
  have:=zbn (λl=>l[o]?) ho;simp only[zbe,(DU e1 cT).2,hx,Option.map_some,Option.some.injEq] at this;exact this
 ·have cT:t<ts.length:=by rw[l2];exact (zae.1 hx).1
  have:=zbn (λl=>l[t]?) ht;simp only[zbe,(DU e2 cT).2,hx,Option.map_some,Option.some.injEq] at this;exact this
theorem aN.frame {f:FuncId} {args:O EV} {s0 s1:St} {e1:EV} (rs ts:O Nat) (h:aN P f args s0 (QE e1 s1)) (hp:Bc rs ts s0 st=true) (h5:s0.aS.all (mh s0.aS.length s0.av.length)=true) (uq:args.all (qZ s0.aS.length s0.av.length)=true)
  (ho:rs.map (λr=>st.aS[r]?)=s0.aS.map (λx=>some (x.ren (dw rs st.aS.length) (dw ts st.av.length)))) (ht:ts.map (λr=>st.av[r]?)=s0.av.map some) :
  aN P f (args.map (EV.ren (dw rs st.aS.length) (dw ts st.av.length))) st (QE (e1.ren (dw rs st.aS.length) (dw ts st.av.length)) (cF st s1 rs ts)):=by
 obtain ⟨p,e1',N9,l1,l2⟩:=Part.of hp h5 ho ht;intro g w base vs hi ha;rw[zbf] at uq;refine (h (g.sub _ _) w base vs (hi.part p) ⟨by have:=ha.1;simpa using this,λi x v hx hv=>?_⟩).mono ?_
 ·exact (ha.2 i _ v (by rw[zbe,hx];rfl) hv).down p.av (uq x (zbj hx))
 ·rintro e w' ⟨v,r,s,g1,rfl,⟨hle,rfl⟩,hr,hinv,hh⟩;obtain ⟨g',k1,k2,k3⟩:=hi.Rb e1' N9 l1 l2 p hinv hh.toStep;exact ⟨v,_,_,g',rfl,⟨.ak _,rfl⟩,k3 _ _ (hle _ _ _ _ hr),k1,⟨k2.dZ,k2.below,k2.lim,k2.frame,k2.fresh⟩⟩
theorem aN.kT {f:FuncId} {args:O EV} {x:EV} {st':St} (h:aN P f args st λe s=>∃ (rs ts:O Nat),Bc rs ts st' s=true/\st'.aS.all (mh st'.aS.length st'.av.length)=true/\qZ st'.aS.length st'.av.length x=true/\(Nat.ble st.aS.length rs.length && Nat.ble st.av.length ts.length)=true /\
   rs.take st.aS.length=List.range st.aS.length/\ts.take st.av.length=List.range st.av.length /\
   rs.map (λr=>s.aS[r]?)=st'.aS.map (λy=>some (y.ren (dw rs s.aS.length) (dw ts s.av.length)))/\ts.map (λr=>s.av[r]?)=st'.av.map some /\
   eC e (x.ren (dw rs s.aS.length) (dw ts s.av.length))):aN P f args st (QE x st'):=by
 intro g w base vs hi ha;refine (h g w base vs hi ha).mono ?_;rintro e w' ⟨v,r,s,g1,rfl,⟨rs,ts,hp,h5,hx,hl,SA,Vs,ho,ht,hle⟩,hr,hinv,hh⟩;obtain ⟨p,e1',N9,l1,l2⟩:=Part.of hp h5 ho ht;simp only[zat] at hl;have AN:=zaf hl.1;have CF:=zaf hl.2;have same:∀ {l:O Nat} {n N:Nat},l.take n=List.range n->n<=l.length->∀ i,i<n->dw l N i=i:=fun {l n N} hl hn i hi=>by
  have e:(l.take n)[i]?=some i:=by rw[hl,List.getElem?_range hi]
  rw[zam,zab hi] at e;simp [dw,e]
 have so:=λi hi=>same (N:=s.aS.length) SA AN i hi
 have PO:=λi hi=>same (N:=s.av.length) Vs CF i hi
 have ES:∀ {i:Nat},i<st'.av.length->st'.av[i]?=s.av[dw ts s.av.length i]?:=fun {i} hi=>by
  rw[p.av i _ (zag hi),zag hi]
 refine ⟨v,x,st',g1.sub _ _,rfl,⟨.ak _,rfl⟩,(hle _ _ _ _ hr).down p.av hx,hinv.part p,⟨⟨hh.dZ.df,λo oc=>?_,(by show st.aS.length<=_;omega),λt e sz n hx=>?_,(by show st.av.length<=_;omega),λt x' bE cT lO oc=>?_⟩,hh.below,hh.lim,hh.frame,λb hb hw=>hh.fresh b hb (p.owned hw)⟩⟩
 ·show g1.ob (dw rs s.aS.length o)=g.ob o;rw[so o oc];exact hh.dZ.ob o oc
 ·have cT:t<st.av.length:=(zae.1 hx).1;obtain ⟨n',a1,a2,a3⟩:=hh.dZ.av t e sz n hx;refine ⟨n',?_,a2,λe'=>?_⟩
  ·rw[ES (by omega),PO t cT];exact a1
  ·show g1.tk (dw ts s.av.length t)=g.tk t;rw[PO t cT];exact a3 e'
 ·rw[ES (by have:=(zae.1 lO).1;exact this),PO t cT] at lO;obtain ⟨y,rows,a1,a2,a3,a4,a5⟩:=hh.dZ.own t x' bE cT lO oc;refine ⟨y,rows,a1,a2,a3,a4,λe'=>?_⟩;show g1.tk (dw ts s.av.length t)=g.tk t;rw[PO t cT];exact a5 e'
end call
section call
variable {P:uG} {f:Ctx} {N:Nat} {S:Start} {Q:EV->St->Prop} {k:List Item} {env:Env} {st:St} {ops rest:List Oper}
 {d:Option Tmp} {ty:uE} {pos:String} {after:uD Edge}
theorem L7 {d:J Tmp} {x r:EV} (hle:eC x r) (h:cr P f N S Q ops rest k (env.put d r) st):cr P f N S Q ops rest k (env.put d x) st:=by
 cases d with
 | none=>exact h
 | some t =>
  intro i hi g w tmps hinv hh he hn;refine h i hi g w tmps hinv hh (λj y hy=>?_) hn;unfold Env.put lookup at hy;cases hb:Nat.beq j t with
  | true =>
   rw[hb] at hy;simp only[Option.some.injEq] at hy;subst hy;have:=zaw hb;subst this;obtain ⟨v,h1,h2⟩:=he j x (by unfold Env.put lookup;rw[zfa]);exact ⟨v,h1,hle _ _ _ _ h2⟩
  | false =>
   rw[hb] at hy;exact he j y (by unfold Env.put lookup;rw[hb];exact hy)
theorem cr.fa {f':FuncId} {l:O uH} {ts:uD uE} {SV es:O EV} {x r:EV} {s0 s1 st':St} (Fi:Enters P f') (hd:hZ N d=true) (rs tk:O Nat)
  (h1:DJ env l=some es) (hc:aN P f' SV s0 (QE r s1)) (hle:xS es (SV.map (EV.ren (dw rs st.aS.length) (dw tk st.av.length))))
  (hp:(Bc rs tk s0 st && SV.all (qZ s0.aS.length s0.av.length))=true) (h5:s0.aS.all (mh s0.aS.length s0.av.length)=true)
  (ho:rs.map (λr=>st.aS[r]?)=s0.aS.map (λx=>some (x.ren (dw rs st.aS.length) (dw tk st.av.length)))) (ht:tk.map (λr=>st.av[r]?)=s0.av.map some)
  (hx:r.ren (dw rs st.aS.length) (dw tk st.av.length)=x) (hs:cF st s1 rs tk=st')
  (hk:cr P f N S Q ops rest k (env.put d x) st') :
  cr P f N S Q ops (⟨d,.call ⟨.value (.func f'),l.toArray,ts⟩,ty,pos,after,none⟩::rest) k env st:=by
 simp only[zat] at hp;refine .callS Fi hd h1 ((hc.frame rs tk hp.1 h5 hp.2 ho ht).le hle) λy s hq=>?_
 obtain ⟨hle,rfl⟩:=hq;rw[hx] at hle;rw[hs];exact L7 hle hk
theorem cr.BS {f':FuncId} {l:O uH} {ts:uD uE} {SV es cs:O EV} {x r:EV} {y:uH} {s0 s1 st':St} (Fi:Enters P f') (hd:hZ N d=true) (hy:df env y=some (.u0 f' cs)) (rs tk:O Nat)
  (h1:DJ env l=some es) (hc:aN P f' SV s0 (QE r s1)) (hle:xS (es++cs) (SV.map (EV.ren (dw rs st.aS.length) (dw tk st.av.length))))
  (hp:(Bc rs tk s0 st && SV.all (qZ s0.aS.length s0.av.length))=true) (h5:s0.aS.all (mh s0.aS.length s0.av.length)=true)
  (ho:rs.map (λr=>st.aS[r]?)=s0.aS.map (λx=>some (x.ren (dw rs st.aS.length) (dw tk st.av.length)))) (ht:tk.map (λr=>st.av[r]?)=s0.av.map some)
  (hx:r.ren (dw rs st.aS.length) (dw tk st.av.length)=x) (hs:cF st s1 rs tk=st')
  (hk:cr P f N S Q ops rest k (env.put d x) st') :
  cr P f N S Q ops (⟨d,.call ⟨.value y,l.toArray,ts⟩,ty,pos,after,none⟩::rest) k env st:=by
 simp only[zat] at hp;have tH:=(hc.frame rs tk hp.1 h5 hp.2 ho ht).le hle;refine .yH Fi hd hy h1 tH λy s hq=>?_
 obtain ⟨hle,rfl⟩:=hq;rw[hx] at hle;rw[hs];exact L7 hle hk
end call
theorem aD {n m:Nat} {x:dU} {l:O dU} (h1:mh n m x=true) (h2:l.all (mh n m)=true):(x::l).all (mh n m)=true:=by
 simp [h1];simpa using h2
theorem kD {a b:Bool} (h1:a=true) (h2:b=true):(a && b)=true:=by rw[h1,h2];rfl
section tok
variable {P:uG} {f:Ctx} {N:Nat} {S:Start} {Q:EV->St->Prop} {k:List Item} {todo:List Item} {env:Env} {st:St} {ops rest:List Oper}
theorem Inv.sN {g:b8} {base o ci:Nat} {w:uC} {T:uE} {cs:O EV} (h:Inv g base w st) (ho:st.aS[o]?=some (.row T cs)) (hc:cs[ci]?=some (.d (.ex (.slice none 0 0)))) (e sz:Nat) :
  ∃ g',Inv g' base w ((st.tok ⟨e,sz,0,none⟩).set o (.row T (cs.set ci (.cm sz [] st.av.length))))/\Step base g w st g' w ((st.tok ⟨e,sz,0,none⟩).set o (.row T (cs.set ci (.cm sz [] st.av.length)))):=by
 obtain ⟨g1,h1,h2,h3⟩:=h.JY e sz;have Ie:(st.tok ⟨e,sz,0,none⟩).aS[o]?=some (.row T cs):=ho;obtain ⟨b1,b2,vs,b3,b4,b5⟩:=h2.row o T cs Ie;obtain ⟨hi,hs⟩:=h2.setBlock (o:=o) (x:=.row T (cs.set ci (.cm sz [] st.av.length))) (w':=w) ⟨_,Ie,by simp⟩ b2 rfl (λ_ _=>rfl) rfl rfl rfl
  (λSs On Fk lO=>by
   cases lO;refine ⟨vs,b3,by simpa using b4,λi c u rR hu=>?_⟩;rw[zbm] at rR;split at rR
   ·rename_i hic;subst hic;split at rR
    ·cases rR;have h0:=b5 ci _ u hc hu;refine ⟨?_,h0.2⟩;have hu0:u=.slice none 0 0:=h0.1.bO;subst hu0;exact .cm sz [] _ _ e 0 (.nil sz _) (by simp [St.tok,St.set]) (zaq _) (λ_=>.inl h1.symm)
    ·cases rR
   ·have h0:=b5 i c u rR hu;exact ⟨h0.1.mono Ss,h0.2⟩) (λ_ es lO=>by cases lO)
 exact ⟨g1,hi,h3.trans hs⟩
theorem bA.sN {o ci e sz:Nat} {T:uE} {cs:O EV} (ho:st.aS[o]?=some (.row T cs)) (hc:cs[ci]?=some (.d (.ex (.slice none 0 0))))
  (h:bA P f N S Q todo env ((st.tok ⟨e,sz,0,none⟩).set o (.row T (cs.set ci (.cm sz [] st.av.length))))):bA P f N S Q todo env st:=by
 intro g w tmps hinv hh he hn;obtain ⟨g',h1,h2⟩:=hinv.sN ho hc e sz;exact h g' w tmps h1 (hh.step h2) (he.mono h2.dZ) hn
theorem cr.sN {o ci e sz:Nat} {T:uE} {cs:O EV} (ho:st.aS[o]?=some (.row T cs)) (hc:cs[ci]?=some (.d (.ex (.slice none 0 0))))
  (h:cr P f N S Q ops rest k env ((st.tok ⟨e,sz,0,none⟩).set o (.row T (cs.set ci (.cm sz [] st.av.length))))):cr P f N S Q ops rest k env st :=
 λj hj=>.sN ho hc (h j hj)
end tok
section rules
variable {P:uG} {base:Nat} {env:Env} {st:St} {d:Option Tmp} {ty:uE} {pos:String} {after:uD Edge} {gd:Option (Nat×Bool)} {t:uE} {x:uH}
theorem dO {o off:Nat} (hx:df env x=some (.ref o off)):aJ P env st ⟨d,.nilCheck x,ty,pos,after,gd⟩ (.ref o off):=λg base w tmps hi he=>by
 have h:=aR he hx;generalize hv:Act.eval ⟨tmps,[]⟩ x=v at h;cases h with
 | ref _ _ cT=>exact ⟨_,.ref _ _ cT,λw' _=>by simp [execOp,hv]⟩
end rules
section rep
variable {g:b8} {base:Nat} {w:uC} {st:St}
theorem ub (h:Inv g base w st) {t e sz n:Nat} {rows:O (O D)} {v:uB} (fO:st.av[t]?=some ⟨e,sz,n,some rows⟩) (hv:bP g w st (.vc t n) v) :
  v=g.tk t∨(n=0/\rows=[]/\∃ A,v=.slice A 0 0):=by
 cases hv with
 | vc _ _ _ ht hf hh =>
  rcases (hh _ rows fO rfl).2 rfl with h1|⟨h1,h3⟩
  ·exact .inl h1
  ·obtain ⟨xs,_,_,k⟩:=h.own t e sz n rows fO;exact .inr ⟨h1,zba (by rw[k.len];exact h1),h3⟩
theorem Kd (h:Inv g base w st) {t e sz n:Nat} {rows:O (O D)} {v:uB} (fO:st.av[t]?=some ⟨e,sz,n,some rows⟩) (hv:v=g.tk t) :
  v=g.tk t/\∃ xs,w.ownsRow base e sz v n xs/\(∀ b,v.ownBlock=some b->g.lim b=0)/\dF g.lim w sz n rows xs:=by
 subst hv;exact ⟨rfl,h.own t e sz n rows fO⟩
theorem SX {t e sz:Nat} {rows:O (O D)} {v:uB} (cT:t<st.av.length) (fO:st.av[t]?=some ⟨e,sz,0,some rows⟩) (hv:∃ A,v=.slice A 0 0):bP g w st (.vc t 0) v :=
 .vc t 0 _ cT (by obtain ⟨A,rfl⟩:=hv;exact ⟨_,_,_,rfl⟩) λx bE hx ho=>by rw[fO] at hx;cases hx;exact ⟨zaq _,λ_=>.inr ⟨rfl,hv⟩⟩
theorem jV {w:uC} {base e sz n:Nat} {v:uB} {xs:O uB} (h:w.ownsRow base e sz v n xs):(∃ A c,v=.slice A n c)/\(n≠0->∃ b c,v=.slice (some ⟨b,0,none⟩) n c):=by
 rcases h.2 with ⟨rfl,rfl⟩|⟨b,cap,cur,rfl,_⟩
 ·exact ⟨⟨_,_,rfl⟩,λh0=>absurd rfl h0⟩
 ·exact ⟨⟨_,_,rfl⟩,λ_=>⟨_,_,rfl⟩⟩
theorem dF.get {lim:Nat->Nat} {sz n:Nat} {rows:O (O D)} {xs:O uB} (h:dF lim w sz n rows xs) (hx:xs.length=n*sz) {i j:Nat} {row:O D} {c:D} (hi:rows[i]?=some row) (hj:row[j]?=some c) :
  ∃ u,xs[i*sz+j]?=some u/\dY lim w c u/\u.oneCell'=true:=by
 have hl:=h.row row (zbj hi);have cT:i*sz+j<xs.length:=by
  rw[hx,←h.len];exact BD (zae.1 hi).1 (by rw[←hl];exact (zae.1 hj).1)
 exact ⟨_,zag cT,h.rep _ c _ (mg h.row hi hj) (zag cT)⟩
theorem Rc {P:uG} {e sz n b cap:Nat} {xs:O uB} (h:w.ownsRow base e sz (.slice (some ⟨b,0,none⟩) n cap) n xs) (off:Nat) (new:O uB) (Cu:off+new.length<=n*sz) (h1:∀ v∈new,v.oneCell'=true) :
  ∃ w',(storeCells ⟨b,off,none⟩ new 0).run P w=.ok () w'/\w'.ownsRow base e sz (.slice (some ⟨b,0,none⟩) n cap) n (xs.take off++new++xs.drop (off+new.length))/\w.grownBy w' (some b)/\w'.heap.size=w.heap.size:=by
 rcases h.2 with ⟨h',_⟩|⟨g',cap',cur,h',hb,hg,Fm,AL,Ag,PE⟩
 ·cases h'
 ·cases h';have hle:n*sz<=cap*sz:=zcw _ Fm;have mJ:=run_storeCells_at P b off e new 0 cur w hg (by simp;omega) h1;simp only[zdp] at mJ;refine ⟨_,mJ,⟨?_,.inr ⟨b,cap,_,rfl,hb,setRow_heap w b cur _ e (0,0) hg,Fm,AL,?_,?_⟩⟩,⟨rfl,rfl,rfl,by simp,λk _ hk=>setRow_other w b k _ (λe=>hk (by rw[e]))⟩,by simp⟩
  ·have:=h.1;simp;omega
  ·simp;omega
  ·have hx:=h.1;apply zck;intro j;simp only[zdi];rw[zam];have hcur:∀ j,j<n*sz->cur.toList[j]?=xs[j]?:=λj hj=>by rw[←PE,zam,zab hj]
   by_cases hj:j<n*sz
   ·rw[zab hj];by_cases h1:j<off
    ·rw[zar,zar,zap (by simp;omega),zap (by simp;omega),zam,zam,zab h1,zab h1];exact hcur j hj
    ·by_cases h2:j<off+new.length
     ·have key:∀ l r:O uB,l.length=off->(l++new++r)[j]?=new[j-off]?:=λl r hl=>by
       rw[zar,zax (by omega),hl,zap (by omega)]
      rw[key _ _ (by simp;omega),key _ _ (by simp;omega)]
     ·have key:∀ l r:O uB,l.length=off->(l++new++r)[j]?=r[j-(off+new.length)]?:=λl r hl=>by
       rw[zax (by simp;omega)];congr 1;simp;omega
      rw[key _ _ (by simp;omega),key _ _ (by simp;omega),zbd,zbd];have e3:off+new.length+(j-(off+new.length))=j:=by omega
      rw[e3];exact hcur j hj
   ·rw[zaa hj];rw[zbq];simp;omega
theorem OB {lim:Nat->Nat} {sz n:Nat} {rows:O (O D)} {xs us:O uB} (h:dF lim w sz n rows xs) (hx:xs.length=n*sz) {i off:Nat} {row new:O D} (hi:rows[i]?=some row) (hoff:off+new.length<=sz)
  (hu:us.length=new.length) (od:∀ (j:Nat) c u,new[j]?=some c->us[j]?=some u->dY lim w c u/\u.oneCell'=true) :
  dF lim w sz n (rows.set i (row.take off++new++row.drop (off+new.length))) (xs.take (i*sz+off)++us++xs.drop (i*sz+off+us.length)):=by
 have SN:=h.row row (zbj hi);have ET:i<rows.length:=(zae.1 hi).1;have Ys:(row.take off++new++row.drop (off+new.length)).length=sz:=by simp;omega
 have kS:∀ r,r∈rows.set i (row.take off++new++row.drop (off+new.length))->r.length=sz:=λr hr=>by
  rcases List.mem_or_eq_of_mem_set hr with h1|h1
  ·exact h.row r h1
  ·rw[h1];exact Ys
 refine ⟨by simpa using h.len,kS,λj c u hc wR=>?_⟩;have Fl:=jT kS;have Ip:j<n*sz:=by rw[←h.len];have:=(zae.1 hc).1;rw[Fl] at this;simpa using this
 have gq:0<sz:=by
  rcases zev sz with h0|h0
  ·subst h0;omega
  ·exact h0
 have Oo:j=(j / sz)*sz+j % sz:=by rw[zdr];exact (zew j sz).symm
 have hq:j / sz<rows.length:=by rw[h.len];exact zdx (by rw[zdr];exact Ip)
 have hm:j % sz<sz:=zen _ gq;have cT:i*sz+off+us.length<=n*sz:=by
  have:(i+1)*sz<=n*sz:=zcw _ (by rw[←h.len];omega);rw[zdk] at this;omega
 by_cases hqi:j / sz=i
 ·-- in the row that is written
  have xR:(rows.set i (row.take off++new++row.drop (off+new.length)))[j / sz]?=some (row.take off++new++row.drop (off+new.length)):=by rw[hqi,zbm,zab rfl,zab ET]
  have Cs:=mg kS xR (zag (show j % sz<_ by rw[Ys];exact hm));rw[←Oo,hc] at Cs;have fN:(row.take off++new++row.drop (off+new.length))[j % sz]?=some c:=by cases Cs;exact zag _
  rw[hqi] at Oo;by_cases h1:j % sz<off
  ·rw[zar,zap (by simp;omega),zam,zab h1] at fN;rw[zar,zap (by simp;omega),zam,zab (by omega)] at wR;obtain ⟨u2,a1,a2⟩:=h.get hx hi fN;rw[←Oo,wR] at a1;cases a1;exact a2
  ·by_cases h2:j % sz<off+new.length
   ·rw[zar,zax (by simp;omega),zap (by simp;omega)] at fN;rw[zar,zax (by simp;omega),zap (by simp;omega)] at wR;have e1:(List.take off row).length=off:=by simp;omega
    have e2:(List.take (i*sz+off) xs).length=i*sz+off:=by simp;omega
    rw[e1] at fN;rw[e2] at wR;have e3:j-(i*sz+off)=j % sz-off:=by omega
    rw[e3] at wR;exact od _ c u fN wR
   ·rw[zax (by simp;omega)] at fN wR;have e1:(List.take off row++new).length=off+new.length:=by simp;omega
    have e2:(List.take (i*sz+off) xs++us).length=i*sz+off+us.length:=by simp;omega
    rw[e1,zbd] at fN;rw[e2,zbd] at wR;have e3:off+new.length+(j % sz-(off+new.length))=j % sz:=by omega
    have e4:i*sz+off+us.length+(j-(i*sz+off+us.length))=j:=by omega
    rw[e3] at fN;rw[e4] at wR;obtain ⟨u2,a1,a2⟩:=h.get hx hi fN;rw[←Oo,wR] at a1;cases a1;exact a2
 ·have xR:(rows.set i (row.take off++new++row.drop (off+new.length)))[j / sz]?=some rows[j / sz]:=by rw[zbm,zaa (zcl hqi)];exact zag hq
  have Yt:=h.row rows[j / sz] (zfh hq);have Cs:=mg kS xR (zag (show j % sz<_ by rw[Yt];exact hm));rw[←Oo,hc] at Cs;have fN:rows[j / sz][j % sz]?=some c:=by cases Cs;exact zag _
  have hux:xs[j]?=some u:=by
   by_cases h1:j<i*sz+off
   ·rw[zar,zap (by simp;omega),zam,zab h1] at wR;exact wR
   ·have:¬ j<i*sz+off+us.length:=by
     intro h2;apply hqi;have h3:j<(i+1)*sz:=by rw[zdk];omega
     have h4:i*sz<=j:=by omega
     exact Nat.le_antisymm (Nat.le_of_lt_succ (zdx (by rw[zdr];exact h3))) ((Nat.le_div_iff_mul_le gq).2 h4)
    rw[zax (by simp;omega)] at wR;have e2:(List.take (i*sz+off) xs++us).length=i*sz+off+us.length:=by simp;omega
    rw[e2,zbd] at wR;have e4:i*sz+off+us.length+(j-(i*sz+off+us.length))=j:=by omega
    rw[e4] at wR;exact wR
  obtain ⟨u2,a1,a2⟩:=h.get hx (zag hq) fN;rw[←Oo,hux] at a1;cases a1;exact a2
end rep
section rules
variable {P:uG} {f:Ctx} {N:Nat} {S:Start} {Q:EV->St->Prop} {k:List Item} {todo:List Item} {base:Nat} {env:Env} {st:St} {ops rest:List Oper}
 {d:Option Tmp} {ty:uE} {pos:String} {after:uD Edge} {gd:Option (Nat×Bool)} {t t2 e:uE} {x y z:uH}
theorem bA.Yu {α:Type} {tk:Nat} {e sz n:Nat} {l:O α} {row:α->O D} (fO:st.av[tk]?=some ⟨e,sz,n,some (l.map row)⟩) (h:n=l.length->bA P f N S Q todo env st):bA P f N S Q todo env st:=by
 intro g w tmps hinv;obtain ⟨xs,_,_,h3⟩:=hinv.own tk e sz n _ fO;exact h (by have:=h3.len;simpa using this.symm) g w tmps hinv
theorem Inv.freeze {g:b8} {w:uC} {tk e sz n:Nat} {rows:O (O D)} (h:Inv g base w st) (fO:st.av[tk]?=some ⟨e,sz,n,some rows⟩) :
  ∃ g',g'.tk tk=g.tk tk/\Inv g' base w (st.bG tk ⟨e,sz,n,none⟩)/\Step base g w st g' w (st.bG tk ⟨e,sz,n,none⟩)/\dY g'.lim w (.sl sz rows) (g.tk tk):=by
 obtain ⟨xs,h1,h2,h3⟩:=h.own tk e sz n rows fO;obtain ⟨g',k1,k2,k3,k4⟩:=h.Q1 (x':=⟨e,sz,n,none⟩) (v':=g.tk tk) (w':=w) fO h1 (.inl ⟨rfl,rfl,⟨rfl,rfl,rfl,zaq _,λ_ _ _=>rfl⟩⟩) (λhh=>by cases hh) (λrows _ bE hh=>by cases hh) (λrows hh=>by cases hh);refine ⟨g',k1,k3,k4,JX h1 h3.len h3.row (λb hb=>by rw[k2 b hb,u6 rfl];exact zaq _) λj u c hu hc=>?_⟩;exact ⟨(h3.rep j c u hc hu).1.mono k4.dZ.df,(h3.rep j c u hc hu).2⟩
theorem bA.freeze {i tk e sz n:Nat} {rows:O (O D)} (hl:lookup i env=some (.vc tk n)) (fO:st.av[tk]?=some ⟨e,sz,n,some rows⟩)
  (h:bA P f N S Q todo ((i,.cm sz rows tk)::env) (st.bG tk ⟨e,sz,n,none⟩)):bA P f N S Q todo env st:=by
 intro g w tmps hinv hh he hN;obtain ⟨g',h1,h2,h3,h4⟩:=hinv.freeze fO;refine h g' w tmps h2 (hh.step h3) (λj y hy=>?_) hN;unfold lookup at hy;have Ck:=he.mono h3.dZ;cases hb:Nat.beq j i with
 | true =>
  rw[hb] at hy;cases hy;have:=zaw hb;subst this;obtain ⟨v,m1,m2⟩:=he j _ hl;have hlen:tk<st.av.length:=(zae.1 fO).1;obtain ⟨xs,o1,_,o3⟩:=hinv.own tk e sz n rows fO;rcases ub hinv fO m2 with hv|⟨n0,r0,A,hv⟩
  ·subst hv;exact ⟨_,m1,.cm sz rows tk _ e n h4 (by simp [St.bG,zbm,hlen]) (zga o3.len) (λ_=>.inl h1.symm)⟩
  ·subst n0;subst r0;subst hv;exact ⟨_,m1,.cm sz [] tk _ e 0 (.nil sz _) (by simp [St.bG,zbm,hlen]) (zaq _) (λ_=>.inr ⟨rfl,_,rfl⟩)⟩
 | false =>
  rw[hb] at hy;exact Ck j y hy
theorem bA.Re {i e sz:Nat} (hx:lookup i env=some (.d (.ex (.slice none 0 0)))) (h:bA P f N S Q todo ((i,.vc st.av.length 0)::env) (st.tok ⟨e,sz,0,some []⟩)):bA P f N S Q todo env st:=by
 intro g w tmps hinv hh he hN;obtain ⟨g',h1,_,_,h2,h3⟩:=hinv.um ⟨e,sz,0,some []⟩ (World.ownsRow_nil w S.base _ _) (.inl ⟨rfl,rfl⟩) (λrows hr=>by cases hr;exact ⟨rfl,by simp,by simp⟩);refine h g' w tmps h2 (hh.step h3) (λj y hy=>?_) hN;unfold lookup at hy;cases hb:Nat.beq j i with
 | true =>
  rw[hb] at hy;cases hy;have:=zaw hb;subst this;obtain ⟨v,m1,m2⟩:=he j _ hx;have hv:=m2.bO;subst hv;refine ⟨_,m1,.vc _ _ _ (by simp [St.tok]) ⟨_,_,_,rfl⟩ λx rows hx ho=>?_⟩;have:x=⟨e,sz,0,some []⟩:=by simpa [St.tok,zfb] using hx
  subst this;exact ⟨zaq _,λ_=>.inl h1.symm⟩
 | false =>
  rw[hb] at hy;exact (he.mono h3.dZ) j y hy
section sl
variable {α:Type} {sz:Nat} {row:α->List D} {l:List α} {ev:EV} {inf:TypeInfo} {tk n:Nat}
theorem tM (ht:P.underlying t=some (.slice e)) (hx:df env x=some (.vc tk n)) {e':Nat} (fO:st.av[tk]?=some ⟨e',sz,n,some (l.map row)⟩) :
  aJ P env st ⟨d,.call ⟨.builtin .len,#[x],#[t]⟩,ty,pos,after,gd⟩ (.d (cI (l.length:Int))):=λg base w tmps hinv he=>by
 rcases ub hinv fO (aR he hx) with I7|⟨n0,r0,A,hv⟩
 ·obtain ⟨_,xs,h2,_,h4⟩:=Kd hinv fO I7;obtain ⟨⟨A,c,hv⟩,_⟩:=jV h2;have hn:n=l.length:=by have:=h4.len;simpa using this.symm
  rw[←hn];exact ⟨_,.d _ _ (.ex _),λw' _=>FP ht hv w'⟩
 ·have hl:l=[]:=by simpa using r0
  subst hl;exact ⟨_,.d _ _ (.ex _),λw' _=>FP ht hv w'⟩
theorem om [Inhabited α] {kk:IntKind} {i:Int} {e':Nat} (ht:P.underlying t=some (.slice e)) (hi:P.info? e=some inf) (gq:inf.size=sz) (hx:df env x=some (.vc tk n)) (fO:st.av[tk]?=some ⟨e',sz,n,some (l.map row)⟩) (hy:df env y=some (.d (.ex (.int kk i)))) (h:0<=i/\i<l.length) :
  aJ P env st ⟨d,.indexAddr t x y,ty,pos,after,gd⟩ (.vp tk n i.toNat 0):=λg base w tmps hinv he=>by
 have hvk0:Act.eval ⟨tmps,[]⟩ x=g.tk tk:=by
  rcases ub hinv fO (aR he hx) with I7|⟨n0,r0,A,hv⟩
  ·exact I7
  ·have hl:l=[]:=by simpa using r0
   rw[hl] at h;simp at h;omega
 obtain ⟨I7,xs,h2,_,h4⟩:=Kd hinv fO hvk0;have hn:n=l.length:=by have:=h4.len;simpa using this.symm
 obtain ⟨b,c,hv⟩:=(jV h2).2 (by omega);have hlen:tk<st.av.length:=(zae.1 fO).1;subst gq;refine ⟨.pointer (some ⟨b,i.toNat*inf.size,none⟩),.vp _ _ _ _ _ hlen ⟨_,_,rfl⟩ λx rows hx ho=>?_,λw' _=>?_⟩
 ·rw[fO] at hx;cases hx;exact ⟨zaq _,λ_=>⟨b,n,c,by rw[←I7,hv],rfl⟩⟩
 ·have:=DI (d:=d) (ty:=ty) (pos:=pos) (after:=after) (gd:=gd) ht hi hv (aR he hy).bO h.1 (by omega) w';rw[Addr.add_lit,zbu] at this;exact this
theorem Rf {s:uE} {f off i o:Nat} (hf:fQ P s f=some off) (hx:df env x=some (.vp tk n i o)) :
  aJ P env st ⟨d,.fieldAddr s x f,ty,pos,after,gd⟩ (.vp tk n i (o+off)):=λg base w tmps hinv he=>by
 have h:=aR he hx;generalize hv:Act.eval ⟨tmps,[]⟩ x=v at h;cases h with
 | vp _ _ _ _ _ ht hf' hh =>
  obtain ⟨b,o',rfl⟩:=hf';refine ⟨.pointer (some ⟨b,o'+off,none⟩),.vp _ _ _ _ _ ht ⟨_,_,rfl⟩ λx rows hx ho=>?_,λw' _=>by simp [execOp,hv,u5 hf,Addr.add_lit]⟩;obtain ⟨h1,h2⟩:=hh x rows hx ho;refine ⟨h1,λe=>?_⟩;obtain ⟨b2,m,c,a1,a2⟩:=h2 e;cases a2;exact ⟨b,m,c,a1,by rw[zco]⟩
theorem GH {g:b8} {w:uC} {i o e':Nat} {v:uB} {r:O D} {rows:O (O D)} (hinv:Inv g base w st) (fO:st.av[tk]?=some ⟨e',sz,n,some rows⟩) (hv:bP g w st (.vp tk n i o) v) (hr:rows[i]?=some r) :
  ∃ b c xs,g.tk tk=.slice (some ⟨b,0,none⟩) n c/\v=.pointer (some ⟨b,i*sz+o,none⟩)/\w.ownsRow base e' sz (.slice (some ⟨b,0,none⟩) n c) n xs/\g.lim b=0/\dF g.lim w sz n rows xs/\b<w.heap.size /\
   ∀ j cc,r[j]?=some cc->∃ u,w.cell? ⟨b,i*sz+j,none⟩=some u/\xs[i*sz+j]?=some u/\dY g.lim w cc u/\u.oneCell'=true:=by
 cases hv with
 | vp _ _ _ _ _ ht hf' hh =>
  obtain ⟨b,m,c,a1,a2⟩:=(hh _ rows fO rfl).2 rfl;obtain ⟨xs,h1,h2,h3⟩:=hinv.own tk e' sz n rows fO;rw[a1] at h1 h2;have hm:m=n:=by
   rcases h1.2 with ⟨hh,_⟩|⟨_,_,_,hh,_⟩
   ·cases hh
   ·cases hh;rfl
  subst hm;refine ⟨b,c,xs,a1,a2,h1,h2 b rfl,h3,(h1.lt b rfl).2,λj cc hj=>?_⟩;obtain ⟨u,k1,k2⟩:=h3.get h1.1 hr hj;have:=h1.cells (g:=b) rfl _ u k1;rw[Addr.add_lit,zbu] at this;exact ⟨u,this,k1,k2⟩
theorem zx [Inhabited α] {i o e':Nat} {c:D} (h1:(P.underlying t).map lS=some true) (hx:df env x=some (.vp tk n i o)) (fO:st.av[tk]?=some ⟨e',sz,n,some (l.map row)⟩) (hi:i<l.length) (hc:(row (nth l i))[o]?=some c) :
  aJ P env st ⟨d,.load t x,ty,pos,after,gd⟩ (.d c):=λg base w tmps hinv he=>by
 obtain ⟨b,cp,xs,a1,a2,a3,a4,a5,a6,a7⟩:=GH hinv fO (aR he hx) (DR hi);obtain ⟨u,k1,k2,k3,k4⟩:=a7 o c hc;refine ⟨u,.d _ _ k3,λw' hb=>?_⟩;have:=(hb.cell (p:=⟨b,i*sz+o,none⟩) a6).trans k1;simp [execOp,a2,Instr.loadAt,Instr.sureAddr,loadVar,wU h1,this]
theorem nD [Inhabited α] {i o e' m:Nat} {cs:O D} (h1:(P.underlying t).map lS=some false) (hs:(P.info? t).map (·.size)=some m) (hx:df env x=some (.vp tk n i o)) (fO:st.av[tk]?=some ⟨e',sz,n,some (l.map row)⟩) (hi:i<l.length)
  (hm:o+m<=sz) (hc:((row (nth l i)).drop o).take m=cs):aJ P env st ⟨d,.load t x,ty,pos,after,gd⟩ (.d (.agg cs)):=λg base w tmps hinv he=>by
 obtain ⟨b,cp,xs,a1,a2,a3,a4,a5,a6,a7⟩:=GH hinv fO (aR he hx) (DR hi);have SN:(row (nth l i)).length=sz:=a5.row _ (zbj (DR hi));have hl:cs.length=m:=by rw[←hc];simp;omega
 let us:O uB:=(xs.drop (i*sz+o)).take m
 have Sc:∀ j u,us[j]?=some u->j<m/\xs[i*sz+(o+j)]?=some u:=λj u hu=>by
  simp only[us,zam,zbd] at hu;split at hu
  ·rename_i hj;exact ⟨hj,by rw[←hu];congr 1;omega⟩
  ·cases hu
 have fN:∀ j,j<m->∃ cc u,cs[j]?=some cc/\us[j]?=some u/\w.cell? ⟨b,i*sz+o+j,none⟩=some u/\dY g.lim w cc u/\u.oneCell'=true:=λj hj=>by
  have e1:(row (nth l i))[o+j]?=some ((row (nth l i))[o+j]'(by omega)):=zag _;obtain ⟨u,k1,k2,k3,k4⟩:=a7 (o+j) _ e1;refine ⟨_,u,by rw[show cs[j]?=(((row (nth l i)).drop o).take m)[j]? from by rw[hc],zam,zab hj,zbd];exact e1,?_,by rw[zco];exact k1,k3,k4⟩;simp only[us,zam,zbd];rw[zab hj,←k2];congr 1;omega
 have hul:us.length=m:=by
  have h1:=a3.1;have ET:i<n:=by have:=a5.len;simp at this;omega
  have h2:(i+1)*sz<=n*sz:=zcw _ ET;rw[zdk] at h2;simp [us];omega
 refine ⟨.agg us.toArray,.d _ _ (.agg _ _ (by simp [hul,hl]) (λj u hu=>?_) (λj cc u Cs hu=>?_)),λw' hb=>?_⟩
 ·obtain ⟨hj,_⟩:=Sc j u (by simpa using hu);obtain ⟨cc,u',b1,b2,b3,b4,b5⟩:=fN j hj;have:us[j]?=some u:=by simpa using hu
  rw[b2] at this;cases this;exact b5
 ·obtain ⟨hj,_⟩:=Sc j u (by simpa using hu);obtain ⟨cc',u',b1,b2,b3,b4,b5⟩:=fN j hj;have:us[j]?=some u:=by simpa using hu
  rw[b2] at this;cases this;rw[b1] at Cs;cases Cs;exact b4
 ·obtain ⟨inf,mQ,JW⟩:∃ inf,P.info? t=some inf/\inf.size=m:=by
   cases hh:P.info? t with
   | none=>rw[hh] at hs;cases hs
   | some inf=>rw[hh] at hs;exact ⟨inf,rfl,by simpa using hs⟩
  have Gn:=sL (P:=P) (w:=w') (b:=b) (off:=i*sz+o) hul (λj u hu=>by
   obtain ⟨hj,_⟩:=Sc j u hu;obtain ⟨cc,u',b1,b2,b3,b4,b5⟩:=fN j hj;rw[b2] at hu;cases hu;exact (hb.cell (p:=⟨b,i*sz+o+j,none⟩) a6).trans b3)
  simp [execOp,a2,Instr.loadAt,Instr.sureAddr,loadVar,Af h1,sizeOf,typeInfo,mQ,JW,Gn]
theorem CG [Inhabited α] {i o e' m:Nat} {new:O D} {a:α} (hx:df env x=some (.vp tk n i o)) (fO:st.av[tk]?=some ⟨e',sz,n,some (l.map row)⟩) (hi:i<l.length) (hy:df env y=some ev) (hc:cellsD ev=some new)
  (hs:(P.info? t).map (·.size)=some m) (hm:new.length=m) (hof:o+m<=sz) (ha:(row (nth l i)).take o++new++(row (nth l i)).drop (o+new.length)=row a) :
  JT P base env st ⟨d,.store t x y,ty,pos,after,gd⟩ (st.bG tk ⟨e',sz,n,some ((l.set i a).map row)⟩):=by
 intro g w tmps hinv he;obtain ⟨b,cp,xs,a1,a2,a3,a4,a5,a6,a7⟩:=GH hinv fO (aR he hx) (DR hi);have hcr:=mR hc (aR he hy);generalize hu:Act.eval ⟨tmps,[]⟩ y=u at hcr;have hul:u.cells.toList.length=new.length:=by simpa using hcr.1
 have ET:i<n:=by have:=a5.len;simp at this;omega
 have h2:(i+1)*sz<=n*sz:=zcw _ ET;rw[zdk] at h2;have hone:∀ v∈u.cells.toList,v.oneCell'=true:=λv hv=>by
  obtain ⟨j,hj⟩:=zdj.1 hv;have Ip:=(zae.1 hj).1;exact (hcr.2 j new[j] v (zag (by omega)) (by simpa using hj)).2
 obtain ⟨w',k1,k2,k3,k4⟩:=Rc (P:=P) a3 (i*sz+o) u.cells.toList (by omega) hone;have kS:=OB (us:=u.cells.toList) (new:=new) (off:=o) a5 a3.1 (DR hi) (by omega) hul (λj c v Cs hv=>hcr.2 j c v Cs (by simpa using hv));rw[ha] at kS;have zp:(l.map row).set i (row a)=(l.set i a).map row:=by rw[List.map_set]
 rw[zp] at kS;obtain ⟨g',q1,q2,q3,q4⟩:=hinv.Q1 (x':=⟨e',sz,n,some ((l.set i a).map row)⟩) (v':=g.tk tk) (w':=w') fO (by rw[a1];exact k2) (.inl ⟨rfl,k4,by rw[a1];exact k3⟩) (λhh=>by cases hh) (λrows _ bE _=>⟨rfl,zaq _,λ_=>rfl⟩) (λrows hh=>by cases hh;exact kS);refine ⟨g',w',?_,q3,q4⟩;obtain ⟨inf,mQ,JW⟩:∃ inf,P.info? t=some inf/\inf.size=m:=by
  cases hh:P.info? t with
  | none=>rw[hh] at hs;cases hs
  | some inf=>rw[hh] at hs;exact ⟨inf,rfl,by simpa using hs⟩
 have X7:u.cells.size=m:=by have:=hcr.1;omega
 simp [execOp,hu,a2,Instr.storeAt,Instr.sureAddr,storeVar,sizeOf,typeInfo,mQ,JW,X7,k1]
end sl
end rules
end Go.Abs
