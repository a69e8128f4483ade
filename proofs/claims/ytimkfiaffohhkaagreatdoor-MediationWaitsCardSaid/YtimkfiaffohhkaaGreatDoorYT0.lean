/- Our own texts of this seat. -/
import Derived.WalkKit
import Derived.Below
import Derived.Lib.ItoaNum
import Derived.AtR
import Derived.Laws.RangeString
import Derived.Laws.RangeAny
import Derived.Laws.MakeOwn
set_option linter.unusedSimpArgs false
set_option linter.unusedVariables false
set_option linter.unusedSectionVars false
set_option maxRecDepth 100000
set_option maxHeartbeats 1000000
namespace Go
abbrev zaa:=@if_pos
abbrev zab:=@if_neg
abbrev zac:=@Option.bind_some
abbrev zad:=@List.getElem?_eq_some_iff
abbrev zae:=@Nat.le_of_ble_eq_true
abbrev zaf:=@List.getElem?_eq_getElem
abbrev zag:=@List.mem_cons_of_mem
abbrev zah:=@List.mem_cons_self
abbrev zai:=@List.length_cons
abbrev zaj:=@decide_eq_true_eq
abbrev zak:=@List.length_append
abbrev zal:=@List.getElem?_take
abbrev zam:=@List.length_singleton
abbrev zan:=@List.mem_cons
abbrev zao:=@List.getElem?_append_left
abbrev zap:=@List.map_cons
abbrev zaq:=@Bool.and_eq_true
abbrev zar:=@Nat.le_refl
abbrev zas:=@Array.getD_eq_getD_getElem?
abbrev zat:=@List.append_assoc
abbrev zau:=@Array.getElem?_eq_some_iff
abbrev zav:=@Nat.eq_of_beq_eq_true
abbrev zaw:=@List.getElem?_append_right
abbrev zax:=@List.pairwise_cons
abbrev zay:=@Bool.false_eq_true
abbrev zaz:=@List.all_eq_true
abbrev zba:=@List.length_take
abbrev zbb:=@List.mem_append
abbrev zbc:=@List.eq_nil_of_length_eq_zero
abbrev zbd:=@List.getElem?_drop
abbrev zbe:=@List.getElem?_map
abbrev zbf:=@List.map_nil
abbrev zbg:=@List.length_drop
abbrev zbh:=@List.length_nil
abbrev zbi:=@Array.getElem?_eq_getElem
abbrev zbj:=@List.mem_of_getElem?
abbrev zbk:=@List.filter_cons
abbrev zbl:=@List.getElem?_set
abbrev zbm:=@Nat.lt_of_lt_of_le
abbrev zbn:=@List.append_nil
abbrev zbo:=@Bool.eq_iff_iff
abbrev zbp:=@List.getElem?_eq_none
abbrev zbq:=@congrArg
abbrev zbr:=@decide_eq_true_iff
abbrev zbs:=@if_false
abbrev zbt:=@if_true
abbrev zbu:=@Bool.not_true
abbrev zbv:=@List.singleton_append
abbrev zbw:=@List.take_of_length_le
abbrev zbx:=@Bool.or_eq_true
abbrev zby:=@List.mem_singleton
abbrev zbz:=@List.size_toArray
abbrev zca:=@Nat.zero_add
abbrev zcb:=@Bool.not_false
abbrev zcc:=@List.nil_append
abbrev zcd:=@List.nodup_cons
abbrev zce:=@Int.toNat_natCast
abbrev zcf:=@decide_eq_false
abbrev zcg:=@Bool.true_and
abbrev zch:=@List.getD_eq_getElem?_getD
abbrev zci:=@List.mem_map_of_mem
abbrev zcj:=@Array.getElem?_setIfInBounds
abbrev zck:=@List.mem_append_left
abbrev zcl:=@Array.getElem?_toList
abbrev zcm:=@List.ext_getElem?
abbrev zcn:=@Ne.symm
abbrev zco:=@Option.map_eq_some_iff
abbrev zcp:=@Nat.add_assoc
abbrev zcq:=@Option.getD_some
abbrev zcr:=@List.mem_filter
abbrev zcs:=@of_decide_eq_true
abbrev zct:=@decide_eq_true
abbrev zcu:=@List.drop_eq_nil_of_le
abbrev zcv:=@Bool.false_and
abbrev zcw:=@Bool.false_or
abbrev zcx:=@List.any_cons
abbrev zcy:=@decide_eq_false_iff_not
abbrev zcz:=@Nat.mul_le_mul_right
abbrev zda:=@Array.length_toList
abbrev zdb:=@List.mem_map
abbrev zdc:=@List.length_map
abbrev zdd:=@List.map_append
abbrev zde:=@List.length_pos_iff
abbrev zdf:=@List.toList_toArray
abbrev zdg:=@List.mem_iff_getElem?
abbrev zdh:=@List.mem_of_mem_drop
abbrev zdi:=@Nat.add_mul
abbrev zdj:=@List.nodup_append
abbrev zdk:=@Bool.not_eq_true'
abbrev zdl:=@Bool.or_false
abbrev zdm:=@Nat.add_comm
abbrev zdn:=@Nat.add_zero
abbrev zdo:=@Nat.le_trans
abbrev zdp:=@Nat.mul_comm
abbrev zdq:=@Array.getElem?_push_lt
abbrev zdr:=@List.filter_eq_nil_iff
abbrev zds:=@List.drop_of_length_le
abbrev zdt:=@List.filter_eq_self
abbrev zdu:=@List.filter_append
abbrev zdv:=@Bool.true_or
abbrev zdw:=@Nat.div_lt_of_lt_mul
abbrev zdx:=@Array.getElem?_append_left
abbrev zdy:=@Bool.false_ne_true
abbrev zdz:=@getElem!_pos
abbrev zea:=@List.pairwise_append
abbrev zeb:=@Bool.or_self
abbrev zec:=@List.take_append_of_le_length
abbrev zed:=@List.filterMap_cons
abbrev zee:=@beq_self_eq_true
abbrev zef:=@List.append_of_mem
abbrev zeg:=@Array.mem_of_getElem?
abbrev zeh:=@List.mem_append_right
abbrev zei:=@List.all_cons
abbrev zej:=@List.filter_congr
abbrev zek:=@bne_self_eq_false
abbrev zel:=@List.flatMap_cons
abbrev zem:=@Nat.mod_lt
abbrev zen:=@List.mem_of_mem_take
abbrev zeo:=@beq_iff_eq
abbrev zep:=@List.map_toArray
abbrev zeq:=@List.not_mem_nil
abbrev zer:=@List.flatten_append
abbrev zes:=@beq_eq_false_iff_ne
abbrev zet:=@List.filter_cons_of_neg
abbrev zeu:=@Bool.and_true
abbrev zev:=@Nat.eq_zero_or_pos
abbrev zew:=@Nat.div_add_mod
abbrev zex:=@Option.toList_some
abbrev zey:=@List.flatten_cons
abbrev zez:=@Bool.eq_false_iff
abbrev zfa:=@List.any_eq_false
abbrev zfb:=@Nat.beq_refl
abbrev zfc:=@eq_comm
abbrev zfd:=@List.mem_zipIdx_iff_getElem?
abbrev zfe:=@List.any_nil
abbrev zff:=@List.take_append_drop
abbrev zfg:=@List.getElem_mem
abbrev zfh:=@List.any_eq_true
abbrev zfi:=@List.exists_mem_of_ne_nil
abbrev zfj:=@decide_false
abbrev zfk:=@Option.toList_none
abbrev zfl:=@Bool.true_eq_false
abbrev zfm:=@List.take_left
abbrev zfn:=@Eq.symm
abbrev zfo:=@List.drop_left
abbrev zfp:=@Nat.add_sub_cancel_left
abbrev zfq:=@Array.size_append
abbrev zfr:=@List.mapM_toArray
abbrev zfs:=@Nat.zero_le
abbrev zft:=@Int.le_refl
abbrev zfu:=@Nat.lt_succ_self
abbrev zfv:=@decide_eq_decide
abbrev zfw:=@List.perm_middle
abbrev zfx:=@Array.getElem?_modify
abbrev zfy:=@List.perm_append_comm
abbrev zfz:=@Nat.zero_mul
abbrev zga:=@Nat.le_of_eq
abbrev zgb:=@Nat.lt_or_ge
abbrev zgc:=@List.length_set
abbrev zgd:=@Bool.not_not
abbrev zge:=@Bool.or_eq_false_iff
abbrev zgf:=@List.length_take_le'
abbrev zgg:=@Array.toList_append
abbrev zgh:=@List.map_congr_left
abbrev zgi:=@List.Perm.refl
abbrev zgj:=@decide_true
end Go
namespace Go.Abs
def GL:List (Nat×Array Value):=[(0,(Go.Lib.pow10Tab.map λz=>Value.int .u64 z).toArray)]
def GI:List Nat:=[]
end Go.Abs
namespace Go.Abs
open Go.RowKit
inductive D where
 | ex (v:Value)
 | agg (cs:List D)
 | eF (cs:List D)
 | sl (sz:Nat) (rows:List (List D))
 | ro (cs:List D)
 | e0 (sz:Nat)
 | any
inductive dA (lim:Nat->Nat) (w:World):D->Value->Prop where
 | ex (v:Value):dA lim w (.ex v) v
 | agg (cs:List D) (vs:Array Value) (hs:vs.size=cs.length)
   (h1:∀ (i:Nat) (u:Value),vs[i]?=some u->u.oneCell'=true)
   (h:∀ (i:Nat) c (u:Value),cs[i]?=some c->vs[i]?=some u->dA lim w c u):dA lim w (.agg cs) (.agg vs)
 | eF (cs:List D) (vs:Array Value) (hs:vs.size=cs.length)
   (h:∀ (i:Nat) c (u:Value),cs[i]?=some c->vs[i]?=some u->dA lim w c u):dA lim w (.eF cs) (.tuple vs)
 | nil (sz:Nat) (A:Option Addr):dA lim w (.sl sz []) (.slice A 0 0)
 | sl (sz:Nat) (rows:List (List D)) (b off cap:Nat) (hc:rows.length<=cap) (hr:∀ row,row∈rows->row.length=sz)
   (hx:∀ k,k<rows.length*sz->off+k<lim b/\∃ u:Value,w.cell? ⟨b,off+k,none⟩=some u/\u.oneCell'=true)
   (h:∀ (i j:Nat) row c (u:Value),rows[i]?=some row->row[j]?=some c->w.cell? ⟨b,off+(i*sz+j),none⟩=some u->dA lim w c u) :
   dA lim w (.sl sz rows) (.slice (some ⟨b,off,none⟩) rows.length cap)
 | ro (cs:List D) (b off:Nat)
   (hx:∀ k,k<cs.length->off+k<lim b/\∃ u:Value,w.cell? ⟨b,off+k,none⟩=some u/\u.oneCell'=true)
   (h:∀ (j:Nat) c (u:Value),cs[j]?=some c->w.cell? ⟨b,off+j,none⟩=some u->dA lim w c u):dA lim w (.ro cs) (.pointer (some ⟨b,off,none⟩))
 | e0 (sz:Nat) (A:Option Addr) (h:A=none∨∃ b off,A=some ⟨b,off,none⟩):dA lim w (.e0 sz) (.slice A 0 0)
 | any (v:Value):dA lim w .any v
structure Mj (l:Nat->Nat) (w:World) (l':Nat->Nat) (w':World):Prop where
 size:w.heap.size<=w'.heap.size
 lim:∀ b:Nat,b<w.heap.size->l b<=l' b
 cell:∀ b off:Nat,b<w.heap.size->off<l b->w'.cell? ⟨b,off,none⟩=w.cell? ⟨b,off,none⟩
theorem Mj.refl (lim:Nat->Nat) (w:World):Mj lim w lim w:=⟨zar _,λ_ _=>zar _,λ_ _ _ _=>rfl⟩
theorem Mj.trans {l1 l2 l3:Nat->Nat} {w1 w2 w3:World} (h:Mj l1 w1 l2 w2) (k:Mj l2 w2 l3 w3):Mj l1 w1 l3 w3 :=
 ⟨zdo h.size k.size,λb hb=>zdo (h.lim b hb) (k.lim b (zbm hb h.size)),
  λb off hb ho=>(k.cell b off (zbm hb h.size) (zbm ho (h.lim b hb))).trans (h.cell b off hb ho)⟩
theorem Il {i j n sz:Nat} (hi:i<n) (hj:j<sz):i*sz+j<n*sz:=by
 have:(i+1)*sz<=n*sz:=zcz sz hi;rw [zdi] at this;omega
theorem dA.mono {lim dm:Nat->Nat} {w w':World} (e:Mj lim w dm w') {x:D} {v:Value} (h:dA lim w x v):dA dm w' x v:=by
 induction h with
 | ex v=>exact .ex v
 | agg cs vs hs h1 _ ih=>exact .agg cs vs hs h1 ih
 | eF cs vs hs _ ih=>exact .eF cs vs hs ih
 | nil sz A=>exact .nil sz A
 | sl sz rows b off cap hc hr hx _ ih =>
  have fg:∀ k,k<rows.length*sz->w'.cell? ⟨b,off+k,none⟩=w.cell? ⟨b,off+k,none⟩:=by
   intro k hk;obtain ⟨hl,u,hu,_⟩:=hx k hk;exact e.cell b (off+k) (World.block_lt_of_cell? w _ hu) hl
  refine .sl sz rows b off cap hc hr ?_ ?_
  ·intro k hk;obtain ⟨hl,u,hu,h1⟩:=hx k hk;exact ⟨zbm hl (e.lim b (World.block_lt_of_cell? w _ hu)),u,(fg k hk).trans hu,h1⟩
  ·intro i j row c u hi hj hu;refine ih i j row c u hi hj ?_;rw [←fg (i*sz+j) ?_]
   ·exact hu
   ·have hl:=hr row (zbj hi);exact Il (zad.1 hi).1 (by rw [←hl];exact (zad.1 hj).1)
 | ro cs b off hx _ ih =>
  have fg:∀ k,k<cs.length->w'.cell? ⟨b,off+k,none⟩=w.cell? ⟨b,off+k,none⟩:=by
   intro k hk;obtain ⟨hl,u,hu,_⟩:=hx k hk;exact e.cell b (off+k) (World.block_lt_of_cell? w _ hu) hl
  refine .ro cs b off ?_ ?_
  ·intro k hk;obtain ⟨hl,u,hu,h1⟩:=hx k hk;exact ⟨zbm hl (e.lim b (World.block_lt_of_cell? w _ hu)),u,(fg k hk).trans hu,h1⟩
  ·intro j c u hj hu;refine ih j c u hj ?_;rw [←fg j (zad.1 hj).1];exact hu
 | e0 sz A h=>exact .e0 sz A h
 | any v=>exact .any v
inductive EV where
 | d (x:D)
 | ref (o off:Nat)
 | JW (o off len cap:Nat)
 | cY (sz:Nat) (rows:List (List D)) (t:Nat)
 | mp (o:Nat)
 | wv (f:FuncId) (TO:List EV)
 | agg (cs:List EV)
 | eF (cs:List EV)
 | gd (b:Bool) (x:EV)
  | vc (t k:Nat)
  | vp (t k i off:Nat)
  | vw (t k lo n:Nat)
structure iu where
 e:TypeId
 sz:Nat
 n:Nat
 own:Option (List (List D))
inductive dD where
 | row (ty:TypeId) (cs:List EV)
 | map (es:List (Value×EV))
 | raw (x:Obj)
 | gone
structure St where
 aQ:List dD
 ar:List iu
structure b7 where
 lim:Nat->Nat
 ob:Nat->Nat
 tk:Nat->Value
def Emp (v:Value) (n:Nat):Prop:=n=0/\∃ A,v=.slice A 0 0
inductive bK (g:b7) (w:World) (st:St):EV->Value->Prop where
 | d (x:D) (v:Value) (h:dA g.lim w x v):bK g w st (.d x) v
 | ref (o off:Nat) (h:o<st.aQ.length):bK g w st (.ref o off) (.pointer (some ⟨g.ob o,off,none⟩))
 | JW (o off len cap:Nat) (h:o<st.aQ.length):bK g w st (.JW o off len cap) (.slice (some ⟨g.ob o,off,none⟩) len cap)
 | cY (sz:Nat) (rows:List (List D)) (t:Nat) (v:Value) (e:TypeId) (n:Nat) (hd:dA g.lim w (.sl sz rows) v) (ht:st.ar[t]?=some ⟨e,sz,n,none⟩)
   (hn:rows.length<=n) (hv:rows.length=n->v=g.tk t∨Emp v n):bK g w st (.cY sz rows t) v
 | mp (o:Nat) (h:o<st.aQ.length):bK g w st (.mp o) (.map (some (g.ob o)))
 | wv (f:FuncId) (cs:List EV) (vs:Array Value) (hs:vs.size=cs.length)
   (h:∀ (i:Nat) c (u:Value),cs[i]?=some c->vs[i]?=some u->bK g w st c u):bK g w st (.wv f cs) (.func (.func f) #[] vs)
 | agg (cs:List EV) (vs:Array Value) (hs:vs.size=cs.length) (h1:∀ (i:Nat) (u:Value),vs[i]?=some u->u.oneCell'=true)
   (h:∀ (i:Nat) c (u:Value),cs[i]?=some c->vs[i]?=some u->bK g w st c u):bK g w st (.agg cs) (.agg vs)
 | eF (cs:List EV) (vs:Array Value) (hs:vs.size=cs.length)
   (h:∀ (i:Nat) c (u:Value),cs[i]?=some c->vs[i]?=some u->bK g w st c u):bK g w st (.eF cs) (.tuple vs)
 | gd (b:Bool) (x:EV) (v:Value) (h0:b=false->v=undef) (h:b=true->bK g w st x v):bK g w st (.gd b x) v
 | vc (t k:Nat) (v:Value) (ht:t<st.ar.length) (hf:∃ A n c,v=.slice A n c) (h:∀ x rows,st.ar[t]?=some x->x.own=some rows->k<=x.n/\(k=x.n->v=g.tk t∨Emp v x.n)):bK g w st (.vc t k) v
 | vp (t k i off:Nat) (v:Value) (ht:t<st.ar.length) (hf:∃ b o,v=.pointer (some ⟨b,o,none⟩))
   (h:∀ x rows,st.ar[t]?=some x->x.own=some rows->k<=x.n/\(k=x.n->∃ b n c,g.tk t=.slice (some ⟨b,0,none⟩) n c/\v=.pointer (some ⟨b,i*x.sz+off,none⟩))):bK g w st (.vp t k i off) v
 | vw (t k lo n:Nat) (v:Value) (ht:t<st.ar.length) (hf:∃ A c,v=.slice A n c)
   (h:∀ x rows,st.ar[t]?=some x->x.own=some rows->k<=x.n/\(k=x.n->n=0∨∃ b m c c',g.tk t=.slice (some ⟨b,0,none⟩) m c/\v=.slice (some ⟨b,lo*x.sz,none⟩) n c')):bK g w st (.vw t k lo n) v
structure u9 (g:b7) (w:World) (st:St) (g':b7) (w':World) (st':St):Prop where
 cX:Mj g.lim w g'.lim w'
 ob:∀ o,o<st.aQ.length->g'.ob o=g.ob o
 aQ:st.aQ.length<=st'.aQ.length
 ar:∀ t e sz n,st.ar[t]?=some ⟨e,sz,n,none⟩->∃ n',st'.ar[t]?=some ⟨e,sz,n',none⟩/\n<=n'/\(n'=n->g'.tk t=g.tk t)
 Mr:st.ar.length<=st'.ar.length
 own:∀ t x' bO,t<st.ar.length->st'.ar[t]?=some x'->x'.own=some bO->∃ x rows,st.ar[t]?=some x/\x.own=some rows/\x.sz=x'.sz/\x.n<=x'.n/\(x.n=x'.n->g'.tk t=g.tk t)
theorem vD {g g':b7} {st st':St} (hs:∀ t x' bO,t<st.ar.length->st'.ar[t]?=some x'->x'.own=some bO->st.ar[t]?=some x'/\g'.tk t=g.tk t) :
  ∀ t x' bO,t<st.ar.length->st'.ar[t]?=some x'->x'.own=some bO->∃ x rows,st.ar[t]?=some x/\x.own=some rows/\x.sz=x'.sz/\x.n<=x'.n/\(x.n=x'.n->g'.tk t=g.tk t) :=
 λt x' bO cJ hx ho=>⟨x',bO,(hs t x' bO cJ hx ho).1,ho,rfl,zar _,λ_=>(hs t x' bO cJ hx ho).2⟩
theorem u9.refl (g:b7) (w:World) (st:St):u9 g w st g w st :=
 ⟨.refl _ _,λ_ _=>rfl,zar _,λ_ _ _ n h=>⟨n,h,zar _,λ_=>rfl⟩,zar _,vD λ_ _ _ _ h _=>⟨h,rfl⟩⟩
theorem u9.trans {g1 g2 g3:b7} {w1 w2 w3:World} {s1 s2 s3:St} (h:u9 g1 w1 s1 g2 w2 s2) (k:u9 g2 w2 s2 g3 w3 s3):u9 g1 w1 s1 g3 w3 s3:=by
 refine ⟨h.cX.trans k.cX,λo ho=>(k.ob o (zbm ho h.aQ)).trans (h.ob o ho),zdo h.aQ k.aQ,λt e sz n ht=>?_,zdo h.Mr k.Mr,λt x'' VZ cJ hx ho=>?_⟩
 rotate_left
 ·obtain ⟨x',bO,a1,a2,a3,a4,a5⟩:=k.own t x'' VZ (zbm cJ h.Mr) hx ho;obtain ⟨x,rows,b1,b2,b3,b4,b5⟩:=h.own t x' bO cJ a1 a2;exact ⟨x,rows,b1,b2,b3.trans a3,zdo b4 a4,λe=>(a5 (by omega)).trans (b5 (by omega))⟩
 obtain ⟨n',h1,h2,h3⟩:=h.ar t e sz n ht;obtain ⟨n'',k1,k2,k3⟩:=k.ar t e sz n' h1;refine ⟨n'',k1,zdo h2 k2,λhn=>?_⟩;have e1:n'=n:=by omega
 subst e1;exact (k3 hn).trans (h3 rfl)
theorem bK.mono {g g':b7} {w w':World} {st st':St} (e:u9 g w st g' w' st') {x:EV} {v:Value} (h:bK g w st x v):bK g' w' st' x v:=by
 induction h with
 | d x v h=>exact .d x v (h.mono e.cX)
 | ref o off h=>rw [←e.ob o h];exact .ref o off (zbm h e.aQ)
 | JW o off len cap h=>rw [←e.ob o h];exact .JW o off len cap (zbm h e.aQ)
 | cY sz rows t v el n hd ht hn hv =>
  obtain ⟨n',h1,h2,h3⟩:=e.ar t el sz n ht;refine .cY sz rows t v el n' (hd.mono e.cX) h1 (zdo hn h2) (λhr=>?_);have e1:n'=n:=by omega
  subst e1;exact (hv hr).imp (·.trans (h3 rfl).symm) id
 | mp o h=>rw [←e.ob o h];exact .mp o (zbm h e.aQ)
 | wv f cs vs hs _ ih=>exact .wv f cs vs hs ih
 | agg cs vs hs h1 _ ih=>exact .agg cs vs hs h1 ih
 | eF cs vs hs _ ih=>exact .eF cs vs hs ih
 | gd b x v h0 _ ih=>exact .gd b x v h0 ih
 | vc t k v ht hf h =>
  refine .vc t k v (zbm ht e.Mr) hf λx' bO hx ho=>?_
  obtain ⟨x,rows,b1,b2,_,b4,b5⟩:=e.own t x' bO ht hx ho;obtain ⟨c1,c2⟩:=h x rows b1 b2;exact ⟨by omega,λhk=>by
   have e1:x.n=x'.n:=by omega
   have:=c2 (by omega);rw [e1] at this;exact this.imp (·.trans (b5 e1).symm) id⟩
 | vp t k i off v ht hf h =>
  refine .vp t k i off v (zbm ht e.Mr) hf λx' bO hx ho=>?_
  obtain ⟨x,rows,b1,b2,b3,b4,b5⟩:=e.own t x' bO ht hx ho;obtain ⟨c1,c2⟩:=h x rows b1 b2;exact ⟨by omega,λhk=>by
   obtain ⟨b,n,c,d1,d2⟩:=c2 (by omega);exact ⟨b,n,c,(b5 (by omega)).trans d1,by rw [←b3];exact d2⟩⟩
 | vw t k lo n v ht hf h =>
  refine .vw t k lo n v (zbm ht e.Mr) hf λx' bO hx ho=>?_
  obtain ⟨x,rows,b1,b2,b3,b4,b5⟩:=e.own t x' bO ht hx ho;obtain ⟨c1,c2⟩:=h x rows b1 b2;exact ⟨by omega,λhk=>by
   rcases c2 (by omega) with hz|⟨b,m,c,c',d1,d2⟩
   ·exact .inl hz
   ·exact .inr ⟨b,m,c,c',(b5 (by omega)).trans d1,by rw [←b3];exact d2⟩⟩
def St.live (st:St) (o:Nat):Prop:=∃ x,st.aQ[o]?=some x/\x≠.gone
def uK (B:Nat) (w:World):Prop:=(∀ x∈GL,x.1<B/\∃ ty fr,w.heap[x.1]?=some (.cells x.2 ty fr))/\∀ k∈GI,k<B/\∃ m,w.cell? ⟨k,0,none⟩=some (.int .i64 m)
theorem uK.below {B:Nat} {w w':World} (h:uK B w) (hb:Below B w w'):uK B w':=⟨λx hx =>
 let ⟨h1,ty,fr,h2⟩:=h.1 x hx
 ⟨h1,ty,fr,(hb.block _ h1).trans h2⟩,λk hk =>
 let ⟨h1,m,h2⟩:=h.2 k hk
 ⟨h1,m,(hb.cell (p:=⟨k,0,none⟩) h1).trans h2⟩⟩
theorem uK.mono {B B':Nat} {w:World} (h:uK B w) (hb:B<=B'):uK B' w:=⟨λx hx =>
 let ⟨h1,h2⟩:=h.1 x hx
 ⟨zbm h1 hb,h2⟩,λk hk =>
 let ⟨h1,h2⟩:=h.2 k hk
 ⟨zbm h1 hb,h2⟩⟩
structure dn (lim:Nat->Nat) (w:World) (sz n:Nat) (rows:List (List D)) (xs:List Value):Prop where
 len:rows.length=n
 row:∀ r,r∈rows->r.length=sz
 rep:∀ (i:Nat) c (u:Value),rows.flatten[i]?=some c->xs[i]?=some u->dA lim w c u/\u.oneCell'=true
theorem dn.mono {lim dm:Nat->Nat} {w w':World} {sz n:Nat} {rows:List (List D)} {xs:List Value} (h:dn lim w sz n rows xs) (e:Mj lim w dm w'):dn dm w' sz n rows xs :=
 ⟨h.len,h.row,λi c u a b=>⟨(h.rep i c u a b).1.mono e,(h.rep i c u a b).2⟩⟩
structure Inv (g:b7) (B:Nat) (w:World) (st:St):Prop where
 base:B<=w.heap.size
 row:∀ o ty cs,st.aQ[o]?=some (.row ty cs)->B<=g.ob o/\g.lim (g.ob o)=0 /\
  ∃ vs:Array Value,w.heap[g.ob o]?=some (.cells vs ty (0,0))/\vs.size=cs.length/\∀ (i:Nat) c (u:Value),cs[i]?=some c->vs[i]?=some u->bK g w st c u/\u.oneCell'=true
 map:∀ o es,st.aQ[o]?=some (.map es)->B<=g.ob o /\
  ∃ (ms:Array MapEntry) (clock:Nat),w.heap[g.ob o]?=some (.map ms clock)/\ms.size=es.length /\
   (∀ (i:Nat) k x (m:MapEntry),es[i]?=some (k,x)->ms[i]?=some m->m.key=k/\bK g w st x m.val) /\
   (∀ (i:Nat) (m:MapEntry),ms[i]?=some m->m.born<clock) /\
   (∀ (i j:Nat) (m m':MapEntry),ms[i]?=some m->ms[j]?=some m'->m.born=m'.born->i=j)
 raw:∀ o x,st.aQ[o]?=some (.raw x)->B<=g.ob o/\g.lim (g.ob o)=0/\w.heap[g.ob o]?=some x
 ne:∀ o o',o≠o'->st.live o->st.live o'->g.ob o≠g.ob o'
 tail:∀ t e sz n,st.ar[t]?=some ⟨e,sz,n,none⟩->∃ xs,w.ownsRow B e sz (g.tk t) n xs/\∀ b,(g.tk t).ownBlock=some b->g.lim b=n*sz
 oH:∀ t t' x x' b,t≠t'->st.ar[t]?=some x->st.ar[t']?=some x'->(g.tk t).ownBlock=some b->(g.tk t').ownBlock≠some b
 iT:∀ t x o,st.ar[t]?=some x->st.live o->(g.tk t).ownBlock≠some (g.ob o)
 DO:uK B w
 own:∀ t e sz n rows,st.ar[t]?=some ⟨e,sz,n,some rows⟩->∃ xs,w.ownsRow B e sz (g.tk t) n xs/\(∀ b,(g.tk t).ownBlock=some b->g.lim b=0)/\dn g.lim w sz n rows xs
theorem Inv.TP {g:b7} {B:Nat} {w:World} {st:St} (h:Inv g B w st) {t:Nat} {x:iu} (hx:st.ar[t]?=some x):∃ xs,w.ownsRow B x.e x.sz (g.tk t) x.n xs:=by
 obtain ⟨e,sz,n,own⟩:=x;cases own with
 | none=>obtain ⟨xs,h1,_⟩:=h.tail t e sz n hx;exact ⟨xs,h1⟩
 | some rows=>obtain ⟨xs,h1,_⟩:=h.own t e sz n rows hx;exact ⟨xs,h1⟩
theorem Inv.wz {g:b7} {B:Nat} {w:World} {st:St} (h:Inv g B w st) {t:Nat} {x:iu} (hx:st.ar[t]?=some x) {b:Nat} (hb:(g.tk t).ownBlock=some b):B<=b/\b<w.heap.size:=by
 obtain ⟨xs,h1⟩:=h.TP hx;exact h1.lt b hb
theorem fv {w w':World} {B e sz n:Nat} {v:Value} {xs:List Value} (h:w.ownsRow B e sz v n xs) (hb:∀ b,v.ownBlock=some b->w'.heap[b]?=w.heap[b]?):w'.ownsRow B e sz v n xs:=by
 obtain ⟨k1,k2⟩:=h;refine ⟨k1,?_⟩;rcases k2 with k2|⟨gb,cap,cur,e1,e2,e3,e4⟩
 ·exact .inl k2
 ·exact .inr ⟨gb,cap,cur,e1,e2,by rw [hb gb (by rw [e1];rfl)];exact e3,e4⟩
def uL (g:b7) (st:St) (b:Nat):Prop:=(∃ o,st.live o/\g.ob o=b)∨(∃ t x,st.ar[t]?=some x/\(g.tk t).ownBlock=some b)
abbrev Env:=List (Nat×EV)
def lookup (i:Nat):Env->Option EV
 | []=>none
 | (j,x)::e=>match Nat.beq i j with
  | true=>some x
  | false=>lookup i e
def dV (g:b7) (w:World) (st:St) (env:Env) (tmps:Array Value):Prop :=
 ∀ i x,lookup i env=some x->∃ v:Value,tmps[i]?=some v/\bK g w st x v
theorem dV.mono {g g':b7} {w w':World} {st st':St} {env:Env} {tmps:Array Value} (e:u9 g w st g' w' st') (h:dV g w st env tmps):dV g' w' st' env tmps :=
 λi x hx=>let ⟨v,h1,h2⟩:=h i x hx;⟨v,h1,h2.mono e⟩
theorem dV.put {g:b7} {w:World} {st:St} {env:Env} {tmps:Array Value} {d:Nat} {x:EV} {v:Value} (h:dV g w st env tmps) (hd:d<tmps.size) (hv:bK g w st x v) :
  dV g w st ((d,x)::env) (tmps.setIfInBounds d v):=by
 intro i y hy;unfold lookup at hy;by_cases hi:i=d
 ·subst hi;have:Nat.beq i i=true:=zfb i;rw [this] at hy;simp only [Option.some.injEq] at hy;subst hy;exact ⟨v,by simp [hd],hv⟩
 ·have:Nat.beq i d=false:=by
   cases hb:Nat.beq i d with
   | false=>rfl
   | true=>exact absurd (zav hb) hi
  rw [this] at hy;obtain ⟨u,h1,h2⟩:=h i y hy;exact ⟨u,by simp [zcj,zcn hi,h1],h2⟩
structure Start where
 g:b7
 w:World
 st:St
 base:Nat
structure rW (S:Start) (g:b7) (w:World) (st:St):Prop where
 dB:u9 S.g S.w S.st g w st
 below:Below S.base S.w w
 lim:∀ b,b<S.base->g.lim b=S.g.lim b
 frame:∀ b,b<S.w.heap.size->¬ uL S.g S.st b->w.heap[b]?=S.w.heap[b]?/\g.lim b=S.g.lim b
 fresh:∀ b,b<S.w.heap.size->uL g st b->uL S.g S.st b
def ox (S:Start) (Q:EV->St->Prop) (e:Ending) (w:World):Prop :=
 ∃ v r st g,e=.returned v/\Q r st/\bK g w st r v/\Inv g S.base w st/\rW S g w st
structure Ctx where
 fn:FuncId
 ds:List Deferred
 ro:Option Nat
@[reducible] def Ctx.of (f:FuncId):Ctx:=⟨f,[],none⟩
def bf (f:Ctx):Frame:={ (default:Frame) with fn:=f.fn,kind:=.normal,roundOf:=f.ro }
def Ctx.fin (P:Program) (f:Ctx) (fr:Frame) (w:World) (e:Ending):Prop :=
 match f.ro with
 | none=>fr.fn=f.fn/\fr.leaving P w e
 | some _=>e=.returned (.bool true)/\∃ tmps,fr=(bf f).atR ⟨tmps,f.ds⟩ []
def eH (P:Program) (f:Ctx) (R:Ending->World->Prop) (todo:List Item) (tmps:Array Value) (w:World):Prop :=
 ∀ cs,∃ e w' fr,R e w'/\Comes P (lone ((bf f).atR ⟨tmps,f.ds⟩ todo) cs w) (lone fr cs w') e/\f.fin P fr w' e
theorem eH.step {P:Program} {f:Ctx} {R:Ending->World->Prop} {todo U6:List Item} {tmps U7:Array Value} {w w':World}
  (h:∀ cs,step P (lone ((bf f).atR ⟨tmps,f.ds⟩ todo) cs w)=.next (lone ((bf f).atR ⟨U7,f.ds⟩ U6) cs w')) (k:eH P f R U6 U7 w'):eH P f R todo tmps w:=by
 intro cs;obtain ⟨e,w2,fr,hR,hc,h1⟩:=k cs;exact ⟨e,w2,fr,hR,Comes.of_steps (.one (h cs)) hc,h1⟩
theorem eH.mono {P:Program} {f:Ctx} {R R':Ending->World->Prop} {todo:List Item} {tmps:Array Value} {w:World} (h:eH P f R todo tmps w) (hr:∀ e w,R e w->R' e w):eH P f R' todo tmps w :=
 λcs=>let ⟨e,w',fr,a,b,c⟩:=h cs;⟨e,w',fr,hr _ _ a,b,c⟩
theorem A5 {ro:Option Nat} {ρ:Operand->Value} {o:Oper} {P:Program} {w w':World} {x:Next} (hr:(execOp ρ o).run P w=.ok x w') (hx:∀ d,x≠.defer d):Oper.semAt ro ρ o=execOp ρ o:=by
 refine Oper.semAt_eq ro ρ o λc hc=>?_
 have:∀ {x:Next} {w':World},(execOp ρ o).run P w=.ok x w'->∃ d,x=.defer d:=by
  intro x w' h;simp only [execOp,hc,Sem.run_bind] at h;cases h2:(resolve ρ c o.type).run P w with
  | halt a b=>rw [h2] at h;cases h
  | ok d w2=>rw [h2] at h;simp at h;exact ⟨d,h.1.symm⟩
 obtain ⟨d,hd⟩:=this hr;exact hx d hd
section ops
variable {P:Program} {f:Ctx} {R:Ending->World->Prop} {k:List Item} {tmps:Array Value} {w:World} {ops:Array Oper} {i:Nat} {rest:List Nat} {o:Oper}
theorem put_eq (ds:List Deferred) (dst:Option Tmp) (v:Value):Act.put ⟨tmps,ds⟩ dst v=⟨(Act.put ⟨tmps,[]⟩ dst v).tmps,ds⟩:=by cases dst <;> rfl
theorem A6 (ds:List Deferred) (tmps:Array Value):Act.eval ⟨tmps,ds⟩=Act.eval ⟨tmps,[]⟩:=by funext x;cases x <;> rfl
theorem eH.value {v:Value} {w':World} (ho:ops[i]?=some o) (hw:Region.wanted o (yielded ops tmps)=true)
  (hr:(execOp (Act.eval ⟨tmps,[]⟩) o).run P w=.ok (.value v) w') (h:eH P f R (.inRegion ops rest::k) (Act.put ⟨tmps,[]⟩ o.dst v).tmps w') :
  eH P f R (.inRegion ops (i::rest)::k) tmps w:=by
 refine eH.step (λcs=>?_) h;have hg:=stepGR_op (P:=P) (b:=bf f) (a:=⟨tmps,f.ds⟩) (k:=k) (cs:=cs) (w:=w) (rest:=rest) ho hw;rw [A6,A5 hr (by simp)] at hg;have pT:∀ v,((bf f).atR ⟨tmps,f.ds⟩ (.inRegion ops (i::rest)::k)).finish v=(bf f).atR (Act.put ⟨tmps,f.ds⟩ o.dst v) (.inRegion ops rest::k):=by
  intro v;rw [Frame.finish_atR,ho];rfl
 refine step_lone_go ?_;rw [←put_eq,hg,←pT];simp [stepG.apply,hr]
theorem eH.skip {w':World} (ho:ops[i]?=some o) (hw:Region.wanted o (yielded ops tmps)=true)
  (hr:(execOp (Act.eval ⟨tmps,[]⟩) o).run P w=.ok .skip w') (h:eH P f R (.inRegion ops rest::k) (Act.put ⟨tmps,[]⟩ o.dst undef).tmps w') :
  eH P f R (.inRegion ops (i::rest)::k) tmps w:=by
 refine eH.step (λcs=>?_) h;have hg:=stepGR_op (P:=P) (b:=bf f) (a:=⟨tmps,f.ds⟩) (k:=k) (cs:=cs) (w:=w) (rest:=rest) ho hw;rw [A6,A5 hr (by simp)] at hg;have pT:∀ v,((bf f).atR ⟨tmps,f.ds⟩ (.inRegion ops (i::rest)::k)).finish v=(bf f).atR (Act.put ⟨tmps,f.ds⟩ o.dst v) (.inRegion ops rest::k):=by
  intro v;rw [Frame.finish_atR,ho];rfl
 refine step_lone_go ?_;rw [←put_eq,hg,←pT];simp [stepG.apply,hr]
theorem eH.xX (ho:ops[i]?=some o) (hw:Region.wanted o (yielded ops tmps)=false)
  (h:eH P f R (.inRegion ops rest::k) (Act.put ⟨tmps,[]⟩ o.dst undef).tmps w):eH P f R (.inRegion ops (i::rest)::k) tmps w:=by
 refine eH.step (λcs=>?_) h;have hs:=stepR_op_skip (P:=P) (b:=bf f) (a:=⟨tmps,f.ds⟩) (k:=k) (cs:=cs) (w:=w) (ops:=ops) (i:=i) (rest:=rest) (by simp [ho];simpa using hw);simp only [ho,zac] at hs;rw [←put_eq];exact hs
theorem eH.call {f':FuncId} {args:Array Value} {w':World} (ho:ops[i]?=some o) (hw:Region.wanted o (yielded ops tmps)=true)
  (hr:(execOp (Act.eval ⟨tmps,[]⟩) o).run P w=.ok (.enter f' args) w')
  (h:Calls P f' args w' λe w2=>∃ v,e=.returned v/\eH P f R (.inRegion ops rest::k) (Act.put ⟨tmps,[]⟩ o.dst v).tmps w2) :
  eH P f R (.inRegion ops (i::rest)::k) tmps w:=by
 intro cs;have hg:=stepGR_op (P:=P) (b:=bf f) (a:=⟨tmps,f.ds⟩) (k:=k) (cs:=cs) (w:=w) (rest:=rest) ho hw;rw [A6,A5 hr (by simp)] at hg;have pT:∀ v,((bf f).atR ⟨tmps,f.ds⟩ (.inRegion ops (i::rest)::k)).finish v=(bf f).atR (Act.put ⟨tmps,f.ds⟩ o.dst v) (.inRegion ops rest::k):=by
  intro v;rw [Frame.finish_atR,ho];rfl
 obtain ⟨e,w2,fr,⟨v,rfl,hF⟩,EO,_,Ms⟩:=h ((bf f).atR ⟨tmps,f.ds⟩ (.inRegion ops (i::rest)::k)::cs);have Ak:Go.step P (lone ((bf f).atR ⟨tmps,f.ds⟩ (.inRegion ops (i::rest)::k)) cs w) =
   .next (lone (Frame.enter P f' args .normal) ((bf f).atR ⟨tmps,f.ds⟩ (.inRegion ops (i::rest)::k)::cs) w') :=
  step_lone_go (by rw [hg];simp [stepG.apply,hr,Frame.atR])
 obtain ⟨e,w3,Zb,hR,hc,h1⟩:=hF cs;refine ⟨e,w3,Zb,hR,Comes.of_steps (.head Ak (EO.trans (.one ?_))) hc,h1⟩;rw [←put_eq,←pT];exact step_leave_returned Ms
theorem eH.Pd (h:eH P f R k tmps w):eH P f R (.inRegion ops []::k) tmps w:=eH.step (λ_=>stepR_region_end) h
end ops
section control
variable {P:Program} {f:Ctx} {R:Ending->World->Prop} {k:List Item} {tmps:Array Value} {w:World}
theorem eH.seq {x y:Code} (h:eH P f R (.code x::.code y::k) tmps w):eH P f R (.code (.seq x y)::k) tmps w:=eH.step (λ_=>stepR_seq) h
theorem eH.Zc (h:eH P f R k tmps w):eH P f R (.code .skip::k) tmps w:=eH.step (λ_=>stepR_skip) h
theorem eH.inBlock {id:Nat} (h:eH P f R k tmps w):eH P f R (.inBlock id::k) tmps w:=eH.step (λ_=>stepR_inBlock) h
theorem eH.block {id:Nat} {c:Code} (h:eH P f R (.code c::.inBlock id::k) tmps w):eH P f R (.code (.block id c)::k) tmps w:=eH.step (λ_=>stepR_block) h
theorem eH.loop {c:Code} (h:eH P f R (.code c::.inLoop c::k) tmps w):eH P f R (.code (.loop c)::k) tmps w:=eH.step (λ_=>stepR_loop) h
theorem eH.inLoop {c:Code} (h:eH P f R (.code c::.inLoop c::k) tmps w):eH P f R (.inLoop c::k) tmps w:=eH.step (λ_=>stepR_inLoop) h
theorem eH.exit {id:Nat} {k':List Item} (hk:exitTo id k=some k') (h:eH P f R k' tmps w):eH P f R (.code (.exit id)::k) tmps w:=eH.step (λ_=>stepR_exit hk) h
theorem eH.cond {c:Operand} {x y:Code} {t:Bool} (hc:Act.eval ⟨tmps,[]⟩ c=.bool t) (h:eH P f R (.code (if t then x else y)::k) tmps w):eH P f R (.code (.cond c x y)::k) tmps w :=
 eH.step (λ_=>stepR_cond (by rw [A6];exact hc)) h
theorem eH.region {id:Nat} {ops:Array Oper} (h:eH P f R (.inRegion ops (List.range ops.size)::k) tmps w):eH P f R (.code (.region id ops false)::k) tmps w:=eH.step (λ_=>stepR_region) h
theorem eH.Am {id:Nat} {ops:Array Oper} (h:∀ t,eH P f R (.inRegion ops (Region.schedule (P.follows .mixedOrders) ops t)::k) tmps { w with drawn:=w.drawn+1 }) :
  eH P f R (.code (.region id ops true)::k) tmps w:=eH.step (λ_=>stepR_region_draw) (h _)
theorem eH.ret {f:FuncId} {fn:Func} {v:Value} (hf:P.funcs[f]?=some fn) (hr:(results fn tmps).run P w=.ok v w) (hR:R (.returned v) w):eH P (.of f) R (.code .ret::k) tmps w :=
 λcs=>⟨.returned v,w,_,hR,.one (stepR_ret rfl),rfl,rfl,rfl,rfl,fn,hf,hr⟩
theorem eH.fin {f:FuncId} {fn:Func} {v:Value} (hf:P.funcs[f]?=some fn) (hr:(results fn tmps).run P w=.ok v w) (hR:R (.returned v) w):eH P (.of f) R [] tmps w :=
 λcs=>⟨.returned v,w,_,hR,.one (stepR_end rfl),rfl,rfl,rfl,rfl,fn,hf,hr⟩
theorem eH.EP {f:FuncId} {l:Nat} (hR:R (.returned (.bool true)) w):eH P ⟨f,[],some l⟩ R [] tmps w :=
 λcs=>⟨.returned (.bool true),w,_,hR,Steps.refl _ _,rfl,tmps,rfl⟩
theorem eH.calls {f:FuncId} {fn:Func} {c:Code} {args:Array Value} (hf:P.funcs[f]?=some fn) (hb:fn.body=some c)
  (h:eH P (.of f) R [.code c] (args++Array.replicate (fn.ntmps-args.size) undef) w):Calls P f args w R:=by
 intro cs;have Ak:Frame.enter P f args .normal=(bf (.of f)).atR ⟨args++Array.replicate (fn.ntmps-args.size) undef,[]⟩ [.code c]:=by
  simp [Frame.enter,Frame.atR,hf,hb,bf]
 obtain ⟨e,w',fr,hR,hc,h1,h2⟩:=h cs;rw [←Ak] at hc;exact ⟨e,w',fr,hR,hc,h1,h2⟩
end control
structure Step (base:Nat) (g:b7) (w:World) (st:St) (g':b7) (w':World) (st':St):Prop where
 dB:u9 g w st g' w' st'
 below:Below base w w'
 lim:∀ b,b<base->g'.lim b=g.lim b
 frame:∀ b,b<w.heap.size->¬ uL g st b->w'.heap[b]?=w.heap[b]?/\g'.lim b=g.lim b
 fresh:∀ b,b<w.heap.size->uL g' st' b->uL g st b
theorem Step.refl (base:Nat) (g:b7) (w:World) (st:St):Step base g w st g w st:=⟨.refl _ _ _,.refl _ _,λ_ _=>rfl,λ_ _ _=>⟨rfl,rfl⟩,λ_ _ h=>h⟩
theorem Step.trans {base:Nat} {g1 g2 g3:b7} {w1 w2 w3:World} {s1 s2 s3:St} (h:Step base g1 w1 s1 g2 w2 s2) (k:Step base g2 w2 s2 g3 w3 s3):Step base g1 w1 s1 g3 w3 s3 :=
 ⟨h.dB.trans k.dB,h.below.trans k.below,λb hb=>(k.lim b hb).trans (h.lim b hb),
  λb hb hn=>have k1:=k.frame b (zbm hb h.dB.cX.size) (λho=>hn (h.fresh b hb ho));have h1:=h.frame b hb hn;⟨k1.1.trans h1.1,k1.2.trans h1.2⟩,
  λb hb ho=>h.fresh b hb (k.fresh b (zbm hb h.dB.cX.size) ho)⟩
theorem rW.step {S:Start} {g g':b7} {w w':World} {st st':St} (h:rW S g w st) (k:Step S.base g w st g' w' st'):rW S g' w' st' :=
 ⟨h.dB.trans k.dB,h.below.trans k.below,λb hb=>(k.lim b hb).trans (h.lim b hb),
  λb hb hn=>have k1:=k.frame b (zbm hb h.dB.cX.size) (λho=>hn (h.fresh b hb ho));have h1:=h.frame b hb hn;⟨k1.1.trans h1.1,k1.2.trans h1.2⟩,
  λb hb ho=>h.fresh b hb (k.fresh b (zbm hb h.dB.cX.size) ho)⟩
theorem rW.refl (S:Start):rW S S.g S.w S.st:=⟨.refl _ _ _,.refl _ _,λ_ _=>rfl,λ_ _ _=>⟨rfl,rfl⟩,λ_ _ h=>h⟩
theorem rW.toStep {S:Start} {g:b7} {w:World} {st:St} (h:rW S g w st):Step S.base S.g S.w S.st g w st:=⟨h.dB,h.below,h.lim,h.frame,h.fresh⟩
def bt (P:Program) (f:Ctx) (N:Nat) (S:Start) (Q:EV->St->Prop) (todo:List Item) (env:Env) (st:St):Prop :=
 ∀ g w tmps,Inv g S.base w st->rW S g w st->dV g w st env tmps->tmps.size=N->eH P f (ox S Q) todo tmps w
def cv:Value->D
 | .agg cs=>if cs.toList.all (·.oneCell') then .agg (cs.toList.map D.ex) else .ex (.agg cs)
 | v=>.ex v
theorem qO (lim:Nat->Nat) (w:World) (v:Value):dA lim w (cv v) v:=by
 cases v <;> simp only [cv] <;> try exact .ex _
 rename_i cs;split
 ·rename_i h;refine .agg _ _ (by simp) ?_ ?_
  ·intro i u hu;rw [zaz] at h;exact h u (by
    have:u∈cs:=zeg hu;simpa using this)
  ·intro i c u hc hu;rw [zbe] at hc;have:cs.toList[i]?=some u:=by simpa using hu
   rw [this] at hc;simp only [Option.map_some,Option.some.injEq] at hc;subst hc;exact .ex u
 ·exact .ex _
def cX (env:Env):Operand->Option EV
 | .tmp t=>lookup t env
 | .const (.agg cs)=>match cs.toList.all (·.oneCell') with
  | true=>some (.d (.agg (cs.toList.map D.ex)))
  | false=>some (.d (.ex (.agg cs)))
 | .const v=>some (.d (.ex v))
 | .func f=>some (.d (.ex (.func (.func f) #[] #[])))
 | .global _=>none
theorem Pe (env:Env) (v:Value):cX env (.const v)=some (.d (cv v)):=by
 cases v <;> try rfl
 rename_i cs;simp only [cX,cv];cases cs.toList.all (·.oneCell') <;> rfl
theorem aP {g:b7} {w:World} {st:St} {env:Env} {tmps:Array Value} (h:dV g w st env tmps) {x:Operand} {e:EV} (hx:cX env x=some e):bK g w st e (Act.eval ⟨tmps,[]⟩ x):=by
 cases x with
 | tmp t =>
  obtain ⟨v,h1,h2⟩:=h t e hx;simp only [Act.eval,zas,h1,zcq];exact h2
 | const v =>
  rw [Pe,Option.some.injEq] at hx;subst hx;exact .d _ _ (qO _ _ v)
 | func f =>
  simp only [cX,Option.some.injEq] at hx;subst hx;exact .d _ _ (.ex _)
 | «global» x=>simp [cX] at hx
section inv
variable {g:b7} {w:World} {st:St} {v:Value}
theorem bK.bN {u:Value} (h:bK g w st (.d (.ex u)) v):v=u:=by
 cases h with|d _ _ h=>cases h;rfl
end inv
section control
variable {P:Program} {f:Ctx} {N:Nat} {S:Start} {Q:EV->St->Prop} {k:List Item} {env:Env} {st:St}
theorem bt.seq {x y:Code} (h:bt P f N S Q (.code x::.code y::k) env st):bt P f N S Q (.code (.seq x y)::k) env st:=λg w t a b c d=>.seq (h g w t a b c d)
theorem bt.skip (h:bt P f N S Q k env st):bt P f N S Q (.code .skip::k) env st:=λg w t a b c d=>.Zc (h g w t a b c d)
theorem bt.inBlock {id:Nat} (h:bt P f N S Q k env st):bt P f N S Q (.inBlock id::k) env st:=λg w t a b c d=>.inBlock (h g w t a b c d)
theorem bt.block {id:Nat} {c:Code} (h:bt P f N S Q (.code c::.inBlock id::k) env st):bt P f N S Q (.code (.block id c)::k) env st:=λg w t a b c d=>.block (h g w t a b c d)
theorem bt.inLoop {c:Code} (h:bt P f N S Q (.code c::.inLoop c::k) env st):bt P f N S Q (.inLoop c::k) env st:=λg w t a b c d=>.inLoop (h g w t a b c d)
theorem bt.Zd {c:Code} (h:bt P f N S Q (.code c::.inLoop c::k) env st):bt P f N S Q (.code (.loop c)::k) env st:=λg w t a b c d=>.loop (h g w t a b c d)
theorem bt.exit {id:Nat} {k':List Item} (hk:exitTo id k=some k') (h:bt P f N S Q k' env st):bt P f N S Q (.code (.exit id)::k) env st:=λg w t a b c d=>.exit hk (h g w t a b c d)
theorem bt.cond {c:Operand} {x y:Code} {b:Bool} (hc:cX env c=some (.d (.ex (.bool b)))) (ht:b=true->bt P f N S Q (.code x::k) env st) (hf:b=false->bt P f N S Q (.code y::k) env st) :
  bt P f N S Q (.code (.cond c x y)::k) env st:=by
 intro g w t hi hh he hn;refine eH.cond (t:=b) (aP he hc).bN ?_;cases b with
 | true=>exact ht rfl g w t hi hh he hn
 | false=>exact hf rfl g w t hi hh he hn
def eG (x y:EV):Prop:=∀ (g:b7) (w:World) (st:St) (v:Value),bK g w st x v->bK g w st y v
theorem eG.ak (x:EV):eG x x:=λ_ _ _ _ h=>h
theorem eG.any (x:EV):eG x (.d .any):=λ_ _ _ v _=>.d _ _ (.any v)
theorem eG.cY (sz:Nat) (rows:List (List D)) (t:Nat):eG (.cY sz rows t) (.d (.sl sz rows)):=λ_ _ _ v h=>by cases h with|cY _ _ _ _ _ _ hd _ _ _=>exact .d _ _ hd
theorem eG.nil (sz:Nat):eG (.d (.ex (.slice none 0 0))) (.d (.sl sz [])):=λ_ _ _ v h=>by cases h.bN;exact .d _ _ (.nil sz _)
theorem D.QJ {lim:Nat->Nat} {w:World} {sz:Nat} {v:Value} (h:dA lim w (.e0 sz) v):dA lim w (.sl sz []) v:=by
 cases h with
 | e0 _ A h =>
  rcases h with rfl|⟨b,off,rfl⟩
  ·exact .nil sz _
  ·exact .sl sz [] b off 0 (zar _) (by simp) (by simp) (by simp)
theorem eG.e0 (sz:Nat):eG (.d (.e0 sz)) (.d (.sl sz [])):=λ_ _ _ v h=>by cases h with|d _ _ h=>exact .d _ _ (D.QJ h)
def df (env:Env):Env->Prop
 | []=>True
 | (i,y)::t=>(∃ x,lookup i env=some x/\eG x y)/\df env t
theorem df.get {env:Env}:∀ {env':Env},df env env'->∀ i y,lookup i env'=some y->∃ x,lookup i env=some x/\eG x y
 | [],_,i,y,h=>by simp [lookup] at h
 | (j,z)::t,⟨⟨x,hx,hle⟩,ht⟩,i,y,h=>by
  unfold lookup at h;cases hb:Nat.beq i j with
  | true =>
   rw [hb] at h;simp only [Option.some.injEq] at h;have:=zav hb;subst this;subst h;exact ⟨x,hx,hle⟩
  | false =>
   rw [hb] at h;exact ht.get i y h
theorem dV.sub {g:b7} {w:World} {tmps:Array Value} {env env':Env} (h:dV g w st env tmps) (hs:df env env'):dV g w st env' tmps:=by
 intro i y hy;obtain ⟨x,hx,hle⟩:=hs.get i y hy;obtain ⟨v,h1,h2⟩:=h i x hx;exact ⟨v,h1,hle _ _ _ _ h2⟩
theorem bt.sub {todo:List Item} {env':Env} (hs:df env env') (h:bt P f N S Q todo env' st):bt P f N S Q todo env st :=
 λg w t a b c d=>h g w t a b (c.sub hs) d
theorem bt.loop {c:Code} {ι:Type} (E:ι->Env) (T:ι->St) (I:ι->Prop) (μ:ι->Nat) (i0:ι) (h0:I i0) (hE:df env (E i0)) (hT:st=T i0)
  (step:∀ i,I i->(∀ j,I j->μ j<μ i->bt P f N S Q (.inLoop c::k) (E j) (T j))->bt P f N S Q (.code c::.inLoop c::k) (E i) (T i)) :
  bt P f N S Q (.code (.loop c)::k) env st:=by
 have key:∀ n i,μ i<n->I i->bt P f N S Q (.code c::.inLoop c::k) (E i) (T i):=by
  intro n
  induction n with
  | zero=>intro i hi;omega
  | succ n ih =>
   intro i hi hI;exact step i hI λj hj cJ=>.inLoop (ih j (by omega) hj)
 subst hT;exact .Zd (.sub hE (key _ i0 (zfu _) h0))
theorem bt.join {todo:List Item} {ι:Type} (k':List Item) (E:ι->Env) (T:ι->St) (I:ι->Prop)
  (hk:∀ i,I i->bt P f N S Q k' (E i) (T i)) (h:(∀ i,I i->bt P f N S Q k' (E i) (T i))->bt P f N S Q todo env st):bt P f N S Q todo env st:=h hk
theorem bt.kO {x y:Code} {ι:Type} (E:ι->Env) (T:ι->St) (I:ι->Prop)
  (hk:∀ i,I i->bt P f N S Q (.code y::k) (E i) (T i)) (h:(∀ i,I i->bt P f N S Q (.code y::k) (E i) (T i))->bt P f N S Q (.code x::.code y::k) env st) :
  bt P f N S Q (.code (.seq x y)::k) env st:=.seq (h hk)
theorem bt.ER {f:FuncId} {fn:Func} (hf:P.funcs[f]?=some fn) (hr:fn.results=#[]) (hQ:Q (.eF []) st):bt P (.of f) N S Q [] env st:=by
 intro g w tmps hi hh he hn;refine eH.fin hf (results_none hr tmps P w) ⟨_,_,st,g,rfl,hQ,.eF _ _ rfl (by simp),hi,hh⟩
end control
def cn (P:Program) (f:Ctx) (N:Nat) (S:Start) (Q:EV->St->Prop) (ops rest:List Oper) (k:List Item) (env:Env) (st:St):Prop :=
 ∀ i,(∀ j:Nat,rest[j]?=ops[i+j]?)->bt P f N S Q (.inRegion ops.toArray (List.range' i rest.length)::k) env st
def Env.put (env:Env):Option Tmp->EV->Env
 | some d,x=>(d,x)::env
 | none,_=>env
def gD (N:Nat):Option Tmp->Bool
 | some d=>Nat.ble (d+1) N
 | none=>true
theorem qP {g:b7} {w:World} {st:St} {env:Env} {tmps:Array Value} {d:Option Tmp} {x:EV} {v:Value} (h:dV g w st env tmps) (hd:gD tmps.size d=true) (hv:bK g w st x v) :
  dV g w st (env.put d x) (Act.put ⟨tmps,[]⟩ d v).tmps:=by
 cases d with
 | none=>exact h
 | some d=>exact h.put (zae hd) hv
theorem iK {tmps:Array Value} {d:Option Tmp} {v:Value}:(Act.put ⟨tmps,[]⟩ d v).tmps.size=tmps.size:=by
 cases d <;> simp [Act.put]
section regions
variable {P:Program} {f:Ctx} {N:Nat} {S:Start} {Q:EV->St->Prop} {k:List Item} {env:Env} {st:St} {ops rest:List Oper}
theorem bt.region {id:Nat} {l:List Oper} (h:cn P f N S Q l l k env st):bt P f N S Q (.code (.region id l.toArray false)::k) env st:=by
 intro g w t a b c d;refine eH.region ?_;have:=h 0 (by simp) g w t a b c d;rw [List.range_eq_range'];simpa using this
theorem cn.nil (h:bt P f N S Q k env st):cn P f N S Q ops [] k env st:=λi _ g w t a b c d=>.Pd (h g w t a b c d)
def xY (P:Program) (base:Nat) (env:Env) (st:St) (o:Oper) (x:EV) (st':St):Prop :=
 ∀ g w tmps,Inv g base w st->dV g w st env tmps->∃ v g' w',(execOp (Act.eval ⟨tmps,[]⟩) o).run P w=.ok (.value v) w'/\bK g' w' st' x v/\Inv g' base w' st'/\Step base g w st g' w' st'
def Im (P:Program) (base:Nat) (env:Env) (st:St) (o:Oper) (st':St):Prop :=
 ∀ g w tmps,Inv g base w st->dV g w st env tmps->∃ g' w',(execOp (Act.eval ⟨tmps,[]⟩) o).run P w=.ok .skip w'/\Inv g' base w' st'/\Step base g w st g' w' st'
def aL (P:Program) (env:Env) (st:St) (o:Oper) (x:EV):Prop :=
 ∀ g base w tmps,Inv g base w st->dV g w st env tmps->∃ v,bK g w st x v/\∀ w',Below w.heap.size w w'->(execOp (Act.eval ⟨tmps,[]⟩) o).run P w'=.ok (.value v) w'
theorem aL.v {base:Nat} {o:Oper} {x:EV} (h:aL P env st o x):xY P base env st o x st :=
 λg w t a b=>let ⟨v,h1,h2⟩:=h g base w t a b;⟨v,g,w,h2 w (.refl _ _),h1,a,.refl _ _ _ _⟩
theorem iU {i n:Nat}:List.range' i (n+1)=i::List.range' (i+1) n:=by rw [List.range'_succ]
theorem cn.op {o:Oper} {x:EV} {st':St} (hg:o.guard=none) (hd:gD N o.dst=true) (h:xY P S.base env st o x st') (hk:cn P f N S Q ops rest k (env.put o.dst x) st') :
  cn P f N S Q ops (o::rest) k env st:=by
 intro i hi g w tmps hinv hh he hn;obtain ⟨v,g',w',hr,hx,dY,hs⟩:=h g w tmps hinv he;have ho:ops.toArray[i]?=some o:=by simpa using (hi 0).symm
 have hw:Region.wanted o (yielded ops.toArray tmps)=true:=by simp [Region.wanted,hg]
 rw [zai,iU];refine eH.value ho hw hr ?_;subst hn;exact hk (i+1) (λj=>by have:=hi (j+1);simpa [zcp,zdm 1 j] using this) g' w' _ dY (hh.step hs) (qP (he.mono hs.dB) hd hx) iK
theorem cn.opU {o:Oper} {st':St} (hg:o.guard=none) (hd:gD N o.dst=true) (h:Im P S.base env st o st') (hk:cn P f N S Q ops rest k (env.put o.dst (.d .any)) st') :
  cn P f N S Q ops (o::rest) k env st:=by
 intro i hi g w tmps hinv hh he hn;obtain ⟨g',w',hr,dY,hs⟩:=h g w tmps hinv he;have ho:ops.toArray[i]?=some o:=by simpa using (hi 0).symm
 have hw:Region.wanted o (yielded ops.toArray tmps)=true:=by simp [Region.wanted,hg]
 rw [zai,iU];refine eH.skip ho hw hr ?_;subst hn;exact hk (i+1) (λj=>by have:=hi (j+1);simpa [zcp,zdm 1 j] using this) g' w' _ dY (hh.step hs) (qP (he.mono hs.dB) hd (.d _ _ (.any _))) iK
end regions
section q
variable {P:Program} {env:Env} {st:St} {d:Option Tmp} {ty:TypeId} {pos:String} {after:Array Edge} {gd:Option (Nat×Bool)}
theorem cD {x:Operand} {e:EV} (hx:cX env x=some e):aL P env st ⟨d,.move x,ty,pos,after,gd⟩ e :=
 λg base w tmps hi he=>⟨_,aP he hx,λ_ _=>rfl⟩
theorem J9 {x:Operand} {e:EV} (hx:cX env x=some e):aL P env st ⟨d,.assign x,ty,pos,after,gd⟩ e :=
 λg base w tmps hi he=>⟨_,aP he hx,λ_ _=>rfl⟩
theorem qQ {o:Oper} {r:Value} (h:∀ g w tmps w',dV g w st env tmps->(execOp (Act.eval ⟨tmps,[]⟩) o).run P w'=.ok (.value r) w'):aL P env st o (.d (.ex r)) :=
 λg base w tmps hi he=>⟨r,.d _ _ (.ex r),λw' _=>h g w tmps w' he⟩
variable {t t2:TypeId} {x y:Operand}
section two
variable {k:IntKind} {a b:Int} (hx:cX env x=some (.d (.ex (.int k a)))) (hy:cX env y=some (.d (.ex (.int k b))))
include hx hy
theorem U8:aL P env st ⟨d,.binOp .lss t x y t2,ty,pos,after,gd⟩ (.d (.ex (.bool (decide (a<b))))):=qQ λg w tmps w' he=>by
 simp [execOp,(aP he hx).bN,(aP he hy).bN,eqGuard,binOp,Op.intCmp]
theorem U9:aL P env st ⟨d,.binOp .leq t x y t2,ty,pos,after,gd⟩ (.d (.ex (.bool (decide (a<=b))))):=qQ λg w tmps w' he=>by
 simp [execOp,(aP he hx).bN,(aP he hy).bN,eqGuard,binOp,Op.intCmp]
theorem Va:aL P env st ⟨d,.binOp .gtr t x y t2,ty,pos,after,gd⟩ (.d (.ex (.bool (decide (a > b))))):=qQ λg w tmps w' he=>by
 simp [execOp,(aP he hx).bN,(aP he hy).bN,eqGuard,binOp,Op.intCmp]
theorem Vb:aL P env st ⟨d,.binOp .geq t x y t2,ty,pos,after,gd⟩ (.d (.ex (.bool (decide (a>=b))))):=qQ λg w tmps w' he=>by
 simp [execOp,(aP he hx).bN,(aP he hy).bN,eqGuard,binOp,Op.intCmp]
theorem Ze:aL P env st ⟨d,.binOp .eql t x y t2,ty,pos,after,gd⟩ (.d (.ex (.bool (a==b)))):=qQ λg w tmps w' he=>by
 simp [execOp,(aP he hx).bN,(aP he hy).bN,eqGuard,binOp,Op.intCmp]
theorem Vc:aL P env st ⟨d,.binOp .neq t x y t2,ty,pos,after,gd⟩ (.d (.ex (.bool (a != b)))):=qQ λg w tmps w' he=>by
 simp [execOp,(aP he hx).bN,(aP he hy).bN,eqGuard,binOp,Op.intCmp]
theorem Zf {c:Int} (hc:k.wrap (a+b)=c):aL P env st ⟨d,.binOp .add t x y t2,ty,pos,after,gd⟩ (.d (.ex (.int k c))):=qQ λg w tmps w' he=>by
 simp [execOp,(aP he hx).bN,(aP he hy).bN,eqGuard,binOp,Op.intArith,hc]
theorem Zg {c:Int} (hc:k.wrap (a-b)=c):aL P env st ⟨d,.binOp .sub t x y t2,ty,pos,after,gd⟩ (.d (.ex (.int k c))):=qQ λg w tmps w' he=>by
 simp [execOp,(aP he hx).bN,(aP he hy).bN,eqGuard,binOp,Op.intArith,hc]
end two
section shift
variable {k k':IntKind} {a b:Int} (hx:cX env x=some (.d (.ex (.int k a)))) (hy:cX env y=some (.d (.ex (.int k' b))))
include hx hy
theorem Vd {c:Int} (hb:0<=b) (hc:a.fdiv (2 ^ (min b.toNat k.bits))=c):aL P env st ⟨d,.binOp .shr t x y t2,ty,pos,after,gd⟩ (.d (.ex (.int k c))):=qQ λg w tmps w' he=>by
 have:¬ b<0:=by omega
 simp [execOp,(aP he hx).bN,(aP he hy).bN,eqGuard,binOp,Op.shift,this,hc]
end shift
section strings
variable {a b:List UInt8} (hx:cX env x=some (.d (.ex (.string ⟨a.toArray⟩)))) (hy:cX env y=some (.d (.ex (.string ⟨b.toArray⟩))))
include hx hy
theorem V0:aL P env st ⟨d,.binOp .eql t x y t2,ty,pos,after,gd⟩ (.d (.ex (.bool (a==b)))):=qQ λg w tmps w' he=>by
 simp [execOp,(aP he hx).bN,(aP he hy).bN,eqGuard,binOp,Op.stringOp]
theorem V3:aL P env st ⟨d,.binOp .neq t x y t2,ty,pos,after,gd⟩ (.d (.ex (.bool (a != b)))):=qQ λg w tmps w' he=>by
 simp [execOp,(aP he hx).bN,(aP he hy).bN,eqGuard,binOp,Op.stringOp,bne]
end strings
theorem ES (ht:P.underlying t=some .bool) (a b:Bool) (n:Nat) (w:World):(Op.equalIn (n+1) t (.bool a) (.bool b)).run P w=.ok (a==b) w:=by
 simp [Op.equalIn,run_underlying ht]
section bools
variable {a b:Bool} (hx:cX env x=some (.d (.ex (.bool a))))
include hx
theorem Zh:aL P env st ⟨d,.unOp .not t x,ty,pos,after,gd⟩ (.d (.ex (.bool (!a)))):=qQ λg w tmps w' he=>by
 simp [execOp,(aP he hx).bN,Op.unary]
theorem Mt (ht:P.underlying t=some .bool) (hy:cX env y=some (.d (.ex (.bool b)))):aL P env st ⟨d,.binOp .eql t x y t2,ty,pos,after,gd⟩ (.d (.ex (.bool (a==b)))):=qQ λg w tmps w' he=>by
 have h:=ES ht a b 9999 w';simp [execOp,(aP he hx).bN,(aP he hy).bN,eqGuard,binOp,Op.equal,Op.maxDepth,h]
theorem ET (ht:P.underlying t=some .bool) (hy:cX env y=some (.d (.ex (.bool b)))):aL P env st ⟨d,.binOp .neq t x y t2,ty,pos,after,gd⟩ (.d (.ex (.bool (a != b)))):=qQ λg w tmps w' he=>by
 have h:=ES ht a b 9999 w';simp [execOp,(aP he hx).bN,(aP he hy).bN,eqGuard,binOp,Op.equal,Op.maxDepth,h,bne]
theorem Pf {z:Operand} {b q:Bool} (hy:cX env y=some (.gd a (.d (.ex (.bool b))))) (hz:cX env z=some (.d (.ex (.bool q)))) :
  aL P env st ⟨d,.pick x y z,ty,pos,after,gd⟩ (.d (.ex (.bool (if a=true then b else q)))):=qQ λg w tmps w' he=>by
 cases a with
 | false=>simp [execOp,(aP he hx).bN,(aP he hz).bN,asBool]
 | true =>
  have:=aP he hy;cases this with
  | gd _ _ _ h0 h=>simp [execOp,(aP he hx).bN,(h rfl).bN,asBool]
theorem QK {z:Operand} {b q:Bool} (hy:cX env y=some (.d (.ex (.bool q)))) (hz:cX env z=some (.gd (!a) (.d (.ex (.bool b))))) :
  aL P env st ⟨d,.pick x y z,ty,pos,after,gd⟩ (.d (.ex (.bool (if a=true then q else b)))):=qQ λg w tmps w' he=>by
 cases a with
 | true=>simp [execOp,(aP he hx).bN,(aP he hy).bN,asBool]
 | false =>
  have:=aP he hz;cases this with
  | gd _ _ _ h0 h=>simp [execOp,(aP he hx).bN,(h rfl).bN,asBool]
end bools
theorem Io {k k':IntKind} {n c:Int} (hs:P.underlying t=some (.int k)) (ht:P.underlying t2=some (.int k')) (hx:cX env x=some (.d (.ex (.int k n)))) (hc:k'.wrap n=c) :
  aL P env st ⟨d,.convert t t2 x,ty,pos,after,gd⟩ (.d (.ex (.int k' c))):=qQ λg w tmps w' he=>by
 simp [execOp,(aP he hx).bN,convert,run_underlying hs,run_underlying ht,Conv.intToInt,hc]
theorem pC {a:List UInt8} (ht:P.underlying t=some .string) (hx:cX env x=some (.d (.ex (.string ⟨a.toArray⟩)))) :
  aL P env st ⟨d,.call ⟨.builtin .len,#[x],#[t]⟩,ty,pos,after,gd⟩ (.d (.ex (.int .i64 a.length))):=qQ λg w tmps w' he=>by
 simp [execOp,(aP he hx).bN,resolve,invoke,builtin,Builtin.len_,run_underlying ht,goInt,ByteArray.size_mk']
theorem Ej {e:TypeId} (ht:P.underlying t=some (.slice e)) {ρ:Operand->Value} {A:Option Addr} {n c:Nat} (hv:ρ x=.slice A n c) (w:World) :
  (execOp ρ ⟨d,.call ⟨.builtin .len,#[x],#[t]⟩,ty,pos,after,gd⟩).run P w=.ok (.value (.int .i64 n)) w:=by
 simp [execOp,hv,resolve,invoke,builtin,Builtin.len_,run_underlying ht,goInt]
theorem Ek {lim:Nat->Nat} {w:World} {sz:Nat} {rows:List (List D)} {v:Value} (h:dA lim w (.sl sz rows) v):∃ A c,v=.slice A rows.length c:=by
 cases h with
 | nil _ A=>exact ⟨A,0,rfl⟩
 | sl _ _ b off cap=>exact ⟨_,_,rfl⟩
theorem QL {a:List UInt8} {k:IntKind} {i:Int} {c:UInt8} (ht:P.underlying t=some .string) (hx:cX env x=some (.d (.ex (.string ⟨a.toArray⟩)))) (hy:cX env y=some (.d (.ex (.int k i))))
  (h0:0<=i) (hc:a[i.toNat]?=some c):aL P env st ⟨d,.index t x y,ty,pos,after,gd⟩ (.d (.ex (.int .u8 (c.toNat:Int)))):=qQ λg w tmps w' he=>by
 have hl:i.toNat<a.length:=(zad.1 hc).1;have hb:(⟨a.toArray⟩:ByteArray)[i.toNat]?=some c:=by
  rw [ByteArray.getElem?_lt' _ _ (by simpa [ByteArray.size] using hl)];have:=(zad.1 hc).2;simpa [ByteArray.getElem_eq_getElem_data] using this
 simp [execOp,(aP he hx).bN,(aP he hy).bN,Instr.index,asIntOf,run_underlying ht,h0,hb]
theorem Cn {e:TypeId} {ρ:Operand->Value} {A:Addr} {n c:Nat} {k:IntKind} {i:Int} {inf:TypeInfo} (ht:P.underlying t=some (.slice e)) (hi:P.info? e=some inf)
  (hv:ρ x=.slice (some A) n c) (hy:ρ y=.int k i) (h0:0<=i) (hn:i<n) (w:World) :
  (execOp ρ ⟨d,.indexAddr t x y,ty,pos,after,gd⟩).run P w=.ok (.value (.pointer (some (A.add (i.toNat*inf.size))))) w:=by
 simp [execOp,hv,hy,Instr.indexAt,asIntOf,run_underlying ht,sizeOf,typeInfo,hi,h0,hn]
theorem Zi {lim:Nat->Nat} {w:World} {sz:Nat} {rows:List (List D)} {v:Value} {n:Nat} {row:List D} (h:dA lim w (.sl sz rows) v) (hr:rows[n]?=some row) :
  ∃ b off c,v=.slice (some ⟨b,off,none⟩) rows.length c/\n<rows.length/\dA lim w (.ro row) (.pointer (some (Addr.add ⟨b,off,none⟩ (n*sz)))):=by
 cases h with
 | nil=>simp at hr
 | sl _ _ b off cap hc rX hx fg =>
  have hn:=(zad.1 hr).1;refine ⟨b,off,cap,rfl,hn,?_⟩;rw [Addr.add_lit];have hl:=rX row (zbj hr);refine .ro row b (off+n*sz) ?_ ?_
  ·intro j hj;have:=hx (n*sz+j) (Il hn (by omega));rw [zcp];exact this
  ·intro j c u hc hu;rw [zcp] at hu;exact fg n j row c u hr hc hu
theorem Pg (hd:∃ Mu,P.underlying t=some Mu/\(∀ fs,Mu≠.struct fs)/\(∀ n e,Mu≠.array n e)) (w:World):(isAgg t).run P w=.ok false w:=by
 obtain ⟨Mu,h,h1,h2⟩:=hd;simp only [isAgg,Sem.run_bind,run_underlying h,Result.andThen_ok];cases Mu <;> first|rfl|exact absurd rfl (h1 _)|exact absurd rfl (h2 _ _)
def lT:TypeDesc->Bool
 | .struct _|.array _ _=>false
 | _=>true
theorem vE (h:(P.underlying t).map lT=some true) (w:World):(isAgg t).run P w=.ok false w:=by
 cases hd:P.underlying t with
 | none=>rw [hd] at h;simp at h
 | some Mu =>
  refine Pg ⟨Mu,hd,?_,?_⟩ w
  ·intro fs e;subst e;rw [hd] at h;simp [lT] at h
  ·intro n e' e;subst e;rw [hd] at h;simp [lT] at h
theorem yT (h:(P.underlying t).map lT=some false) (w:World):(isAgg t).run P w=.ok true w:=by
 cases hd:P.underlying t with
 | none=>rw [hd] at h;simp at h
 | some Mu =>
  rw [hd] at h;cases Mu <;> simp [lT] at h <;> simp [isAgg,run_underlying hd]
theorem V4 {cs:List D} {c:D} (h1:(P.underlying t).map lT=some true) (hx:cX env x=some (.d (.ro (c::cs)))):aL P env st ⟨d,.load t x,ty,pos,after,gd⟩ (.d c):=λg base w tmps hinv he=>by
 have h:=aP he hx;generalize hv:Act.eval ⟨tmps,[]⟩ x=v at h;cases h with
 | d _ _ h =>
  cases h with
  | ro _ b off kq hc =>
   obtain ⟨hl,u,hu,_⟩:=kq 0 (by simp);have vC:w.cell? ⟨b,off,none⟩=some u:=by simpa using hu
   refine ⟨u,.d _ _ (hc 0 c u rfl hu),λw' hb=>?_⟩;have hu'':w'.cell? ⟨b,off,none⟩=some u:=(hb.cell (World.block_lt_of_cell? w _ vC)).trans vC;simp [execOp,hv,Instr.loadAt,Instr.sureAddr,loadVar,vE h1,hu'']
end q
theorem Inv.grow {g g':b7} {base:Nat} {w w':World} {st:St} (h:Inv g base w st) (hb:Below w.heap.size w w') (hl:∀ b,b<w.heap.size->g'.lim b=g.lim b) (ho:g'.ob=g.ob) (ht:g'.tk=g.tk) :
  Inv g' base w' st/\Step base g w st g' w' st:=by
 have hs:Step base g w st g' w' st:=by
  refine ⟨⟨⟨hb.size,λb jZ=>by rw [hl b jZ];exact zar _,λb off jZ _=>hb.cell (p:=⟨b,off,none⟩) jZ⟩,λ_ _=>by rw [ho],zar _,λt e sz n h=>⟨n,h,zar _,λ_=>by rw [ht]⟩,zar _,vD λt x' bO _ h _=>⟨h,by rw [ht]⟩⟩,hb.mono h.base,λb jZ=>hl b (zbm jZ h.base),
   λb jZ _=>⟨hb.block b jZ,hl b jZ⟩,λb _ hw=>by unfold uL at hw ⊢;rw [ho,ht] at hw;exact hw⟩
 have cJ:∀ (b:Nat) (x:Obj),w.heap[b]?=some x->b<w.heap.size:=λb x hx=>(zau.1 hx).1
 have QM:∀ o x,st.aQ[o]?=some (.raw x)->base<=g'.ob o/\g'.lim (g'.ob o)=0/\w'.heap[g'.ob o]?=some x:=by
  intro o x hx;obtain ⟨h1,h2,h3⟩:=h.raw o x hx;have j0:=cJ _ _ h3;rw [ho];exact ⟨h1,by rw [hl _ j0];exact h2,by rw [hb.block _ j0];exact h3⟩
 refine ⟨⟨zdo h.base hb.size,?_,?_,QM,?_,?_,?_,?_,h.DO.below hs.below,?_⟩,hs⟩
 ·intro o ty cs hx;obtain ⟨h1,h2,vs,h3,h4,h5⟩:=h.row o ty cs hx;have j0:=cJ _ _ h3;rw [ho];refine ⟨h1,by rw [hl _ j0];exact h2,vs,by rw [hb.block _ j0];exact h3,h4,λi c u hc hu=>⟨(h5 i c u hc hu).1.mono hs.dB,(h5 i c u hc hu).2⟩⟩
 ·intro o es hx;obtain ⟨h1,ms,clock,h3,h4,h5,h6,h7⟩:=h.map o es hx;have j0:=cJ _ _ h3;rw [ho];exact ⟨h1,ms,clock,by rw [hb.block _ j0];exact h3,h4,λi k x m a b=>⟨(h5 i k x m a b).1,(h5 i k x m a b).2.mono hs.dB⟩,h6,h7⟩
 ·rw [ho];exact h.ne
 ·intro t e sz n hx;obtain ⟨xs,h1,h2⟩:=h.tail t e sz n hx;rw [ht];refine ⟨xs,?_,λb jZ=>?_⟩
  ·obtain ⟨k1,k2⟩:=h1;refine ⟨k1,?_⟩;rcases k2 with k2|⟨gb,cap,cur,e1,e2,e3,e4⟩
   ·exact .inl k2
   ·exact .inr ⟨gb,cap,cur,e1,e2,by rw [hb.block _ (cJ _ _ e3)];exact e3,e4⟩
  ·rw [hl b (h1.lt b jZ).2];exact h2 b jZ
 ·rw [ht];exact h.oH
 ·rw [ht,ho];exact h.iT
 ·intro t e sz n rows hx;obtain ⟨xs,h1,h2,h3⟩:=h.own t e sz n rows hx;rw [ht];exact ⟨xs,fv h1 λb jZ=>hb.block b (h1.lt b jZ).2,λb jZ=>by rw [hl b (h1.lt b jZ).2];exact h2 b jZ,h3.mono hs.dB.cX⟩
def uM (g:b7) (w:World) (st:St) (args:List EV) (vs:Array Value):Prop :=
 vs.size=args.length/\∀ (i:Nat) x v,args[i]?=some x->vs[i]?=some v->bK g w st x v
def aR (P:Program) (f:FuncId) (args:List EV) (st:St) (Q:EV->St->Prop):Prop :=
 ∀ g w base vs,Inv g base w st->uM g w st args vs->Calls P f vs w (ox ⟨g,w,st,base⟩ Q)
def Dj (lim:Nat->Nat) (w:World) (args:List D) (vs:Array Value):Prop :=
 vs.size=args.length/\∀ (i:Nat) x v,args[i]?=some x->vs[i]?=some v->dA lim w x v
def aF (P:Program) (f:FuncId) (args:List D) (q:D->Prop):Prop :=
 ∀ lim w vs,uK w.heap.size w->Dj lim w args vs->Calls P f vs w λe w'=>∃ v r dm,e=.returned v/\q r/\dA dm w' r v/\Mj lim w dm w'/\Below w.heap.size w w'/\∀ b,b<w.heap.size->dm b=lim b
theorem aR.mono {P:Program} {f:FuncId} {args:List EV} {st:St} {Q Q':EV->St->Prop} (h:aR P f args st Q) (hq:∀ x s,Q x s->Q' x s):aR P f args st Q' :=
 λg w base vs hi ha=>(h g w base vs hi ha).mono λe w' ⟨v,r,s,g',a,b,c⟩=>⟨v,r,s,g',a,hq r s b,c⟩
def An:Nat->List EV->Env
 | _,[]=>[]
 | i,x::l=>(i,x)::An (i+1) l
theorem va:∀ (l:List EV) (i j:Nat) (y:EV),lookup j (An i l)=some y->∃ k,j=i+k/\l[k]?=some y
 | [],i,j,y,h=>by simp [An,lookup] at h
 | x::l,i,j,y,h=>by
  unfold An lookup at h;cases hb:Nat.beq j i with
  | true =>
   rw [hb] at h;simp only [Option.some.injEq] at h;exact ⟨0,zav hb,by simp [h]⟩
  | false =>
   rw [hb] at h;obtain ⟨k,h1,h2⟩:=va l (i+1) j y h;exact ⟨k+1,by omega,by simpa using h2⟩
section enter
variable {P:Program} {f:FuncId} {fn:Func} {c:Code} {N:Nat}
theorem aR.enter {args:List EV} {st:St} {Q:EV->St->Prop} (hf:P.funcs[f]?=some fn) (hb:fn.body=some c) (hN:fn.ntmps=N) (hl:Nat.ble args.length N=true)
  (h:∀ S:Start,S.st=st->bt P (.of f) N S Q [.code c] (An 0 args) st):aR P f args st Q:=by
 intro g w base vs hi ha;have Tz:=zae hl;have fT:=ha.1;refine eH.calls hf hb ?_;refine h ⟨g,w,st,base⟩ rfl g w _ hi (rW.refl ⟨g,w,st,base⟩) ?_ (by simp [hN];omega);intro j y hy;obtain ⟨k,rfl,hk⟩:=va args 0 j y hy;have Qy:=(zad.1 hk).1;refine ⟨vs[k]'(by omega),?_,ha.2 k y _ hk (by simp [fT,Qy])⟩;rw [zca,zdx (by omega)];simp [fT,Qy]
def QD (q:D->Prop) (r:EV) (_:St):Prop:=∃ x,eG r (.d x)/\q x
theorem aF.of {args:List D} {q:D->Prop} (h:aR P f (args.map EV.d) ⟨[],[]⟩ (QD q)):aF P f args q:=by
 intro lim w vs A7 ha;have hinv:Inv ⟨lim,λ_=>0,λ_=>.nilFunc⟩ w.heap.size w ⟨[],[]⟩ :=
  ⟨zar _,λo ty cs h=>by simp at h,λo es h=>by simp at h,λo x h=>by simp at h,λo o' _ ⟨x,h,_⟩=>by simp at h,λt e sz n h=>by simp at h,λt t' x x' b _ h=>by simp at h,λt x o h=>by simp at h,A7,λt e sz n rows h=>by simp at h⟩
 refine (h _ w w.heap.size vs hinv ⟨by simpa using ha.1,λi x v hx hv=>?_⟩).mono ?_
 ·rw [zbe] at hx;cases hy:args[i]? with
  | none=>rw [hy] at hx;simp at hx
  | some y =>
   rw [hy] at hx;simp only [Option.map_some,Option.some.injEq] at hx;subst hx;exact .d _ _ (ha.2 i y v hy hv)
 ·rintro e w' ⟨v,r,st',g',rfl,⟨x,hle,hq⟩,hr,hi',hh⟩;cases hle _ _ _ _ hr with
  | d _ _ hd=>exact ⟨v,x,g'.lim,rfl,hq,hd,hh.dB.cX,hh.below,hh.lim⟩
end enter
def Co (env:Env):List Operand->Option (List EV)
 | []=>some []
 | x::l=>match cX env x,Co env l with
  | some e,some r=>some (e::r)
  | _,_=>none
theorem vF {g:b7} {w:World} {st:St} {env:Env} {tmps:Array Value} (h:dV g w st env tmps):∀ (l:List Operand) (es:List EV),Co env l=some es ->
  l.length=es.length/\∀ (i:Nat) e v,es[i]?=some e->(l.map (Act.eval ⟨tmps,[]⟩))[i]?=some v->bK g w st e v
 | [],es,hx=>by simp [Co] at hx;subst hx;simp
 | x::l,es,hx=>by
  unfold Co at hx;split at hx
  ·rename_i e r h1 h2;simp only [Option.some.injEq] at hx;subst hx;obtain ⟨k1,k2⟩:=vF h l r h2;refine ⟨by simp [k1],λi e' v he hv=>?_⟩;cases i with
   | zero =>
    simp at he hv;subst he;subst hv;exact aP h h1
   | succ i=>exact k2 i e' v (by simpa using he) (by simpa using hv)
  ·cases hx
def toD:EV->Option D
 | .d x=>some x
 | .cY sz rows _=>some (.sl sz rows)
 | _=>none
theorem V5 {e:EV} {x:D} (h:toD e=some x):eG e (.d x):=by
 cases e <;> simp [toD] at h
 ·subst h;exact .ak _
 ·subst h;exact .cY _ _ _
def Mv:List EV->Option (List D)
 | []=>some []
 | e::l=>match toD e,Mv l with
  | some x,some r=>some (x::r)
  | _,_=>none
theorem Ka:∀ (es:List EV) (ds:List D),Mv es=some ds->es.length=ds.length/\∀ (i:Nat) d,ds[i]?=some d->∃ e,es[i]?=some e/\eG e (.d d)
 | [],ds,h=>by simp [Mv] at h;subst h;simp
 | e::l,ds,h=>by
  unfold Mv at h;split at h
  ·rename_i x r h1 h2;simp only [Option.some.injEq] at h;subst h;obtain ⟨k1,k2⟩:=Ka l r h2;refine ⟨by simp [k1],λi d hd=>?_⟩;cases i with
   | zero=>simp at hd;subst hd;exact ⟨e,rfl,V5 h1⟩
   | succ i=>simpa using k2 i d (by simpa using hd)
  ·cases h
section call
variable {P:Program} {f:Ctx} {N:Nat} {S:Start} {Q:EV->St->Prop} {k:List Item} {env:Env} {st:St} {ops rest:List Oper}
 {d:Option Tmp} {ty:TypeId} {pos:String} {after:Array Edge}
def Enters (P:Program) (f:FuncId):Prop:=∃ fn,P.funcs[f]?=some fn/\(fn.name == "runtime.NumGoroutine")=false/\fn.body.isNone=false
theorem wA {f':FuncId} (h:Enters P f') (args:Array Value) (w:World):(callFunc f' args).run P w=.ok (.enter f' args) w:=by
 obtain ⟨fn,h1,h2,h3⟩:=h;have Hl:fn.name ≠ "runtime.NumGoroutine" := by simpa using h2
 have h3':fn.body≠none:=by intro e;rw [e] at h3;cases h3
 simp [callFunc,h1,Hl,h3']
theorem Cp {f':FuncId} {l:List Operand} {ts:Array TypeId} {ρ:Operand->Value} (h:Enters P f') (w:World) (hf:ρ (.func f')=.func (.func f') #[] #[]) {gd:Option (Nat×Bool)} :
  (execOp ρ ⟨d,.call ⟨.value (.func f'),l.toArray,ts⟩,ty,pos,after,gd⟩).run P w=.ok (.enter f' (l.map ρ).toArray) w:=by
 simp [execOp,resolve,hf,Deferred.ofValue,invoke,wA h]
theorem Hm {f':FuncId} {l:List Operand} {ts:Array TypeId} {ρ:Operand->Value} {x:Operand} {vs:Array Value} (h:Enters P f') (w:World) (hf:ρ x=.func (.func f') #[] vs) {gd:Option (Nat×Bool)} :
  (execOp ρ ⟨d,.call ⟨.value x,l.toArray,ts⟩,ty,pos,after,gd⟩).run P w=.ok (.enter f' ((l.map ρ).toArray++vs)) w:=by
 simp [execOp,resolve,hf,Deferred.ofValue,invoke,wA h]
theorem Dj.of {g:b7} {w:World} {tmps:Array Value} {l:List Operand} {es:List EV} {ds:List D} (he:dV g w st env tmps) (h1:Co env l=some es) (h2:Mv es=some ds) :
  Dj g.lim w ds (l.map (Act.eval ⟨tmps,[]⟩)).toArray:=by
 obtain ⟨k1,k2⟩:=vF he l es h1;obtain ⟨m1,m2⟩:=Ka es ds h2;refine ⟨by simp [k1,m1],λi x v hx hv=>?_⟩;obtain ⟨e,A1,hle⟩:=m2 i x hx;cases hle _ _ _ _ (k2 i e v A1 (by simpa using hv)) with
 | d _ _ h=>exact h
theorem cn.Zj {f':FuncId} {l:List Operand} {ts:Array TypeId} {es:List EV} {q:EV->St->Prop} (DP:Enters P f') (hd:gD N d=true) (h1:Co env l=some es)
  (hc:aR P f' es st q) (hk:∀ x st',q x st'->cn P f N S Q ops rest k (env.put d x) st') :
  cn P f N S Q ops (⟨d,.call ⟨.value (.func f'),l.toArray,ts⟩,ty,pos,after,none⟩::rest) k env st:=by
 intro i hi g w tmps hinv hh he hn;have ho:ops.toArray[i]?=some ⟨d,.call ⟨.value (.func f'),l.toArray,ts⟩,ty,pos,after,none⟩:=by simpa using (hi 0).symm
 rw [zai,iU];refine eH.call ho (by simp [Region.wanted]) (Cp DP w rfl) ?_;obtain ⟨k1,k2⟩:=vF he l es h1;refine (hc g w S.base _ hinv ⟨by simp [k1],λj x v hx hv=>k2 j x v hx (by simpa using hv)⟩).mono ?_;rintro e w' ⟨v,r,st',g',rfl,hq,hr,dY,Mw⟩;have hs:Step S.base g w st g' w' st':=Mw.toStep;subst hn;exact ⟨v,rfl,hk r st' hq (i+1) (λj=>by have:=hi (j+1);simpa [zcp,zdm 1 j] using this) g' w' _ dY (hh.step hs) (qP (he.mono hs.dB) hd hr) iK⟩
theorem cn.A8 {f':FuncId} {l:List Operand} {ts:Array TypeId} {es cs:List EV} {x:Operand} {q:EV->St->Prop} (DP:Enters P f') (hd:gD N d=true) (hx:cX env x=some (.wv f' cs)) (h1:Co env l=some es)
  (hc:aR P f' (es++cs) st q) (hk:∀ x st',q x st'->cn P f N S Q ops rest k (env.put d x) st') :
  cn P f N S Q ops (⟨d,.call ⟨.value x,l.toArray,ts⟩,ty,pos,after,none⟩::rest) k env st:=by
 intro i hi g w tmps hinv hh he hn;have ho:ops.toArray[i]?=some ⟨d,.call ⟨.value x,l.toArray,ts⟩,ty,pos,after,none⟩:=by simpa using (hi 0).symm
 rw [zai,iU];have hfx:=aP he hx;generalize uC:Act.eval ⟨tmps,[]⟩ x=val at hfx;cases hfx with
 | wv _ _ vs DQ sE =>
 refine eH.call ho (by simp [Region.wanted]) (Hm DP w uC) ?_;obtain ⟨k1,k2⟩:=vF he l es h1;have harg:uM g w st (es++cs) ((l.map (Act.eval ⟨tmps,[]⟩)).toArray++vs):=by
  refine ⟨by simp [k1,DQ],λj y v hy hv=>?_⟩;by_cases hj:j<es.length
  ·rw [zao hj] at hy;rw [zdx (by simpa [k1] using hj)] at hv;exact k2 j y v hy (by simpa using hv)
  ·rw [zaw (by omega)] at hy;rw [Array.getElem?_append_right (by simp [k1];omega)] at hv;exact sE (j-es.length) y v hy (by simpa [k1] using hv)
 refine (hc g w S.base _ hinv harg).mono ?_;rintro e w' ⟨v,r,st',g',rfl,hq,hr,dY,Mw⟩;have hs:Step S.base g w st g' w' st':=Mw.toStep;subst hn;exact ⟨v,rfl,hk r st' hq (i+1) (λj=>by have:=hi (j+1);simpa [zcp,zdm 1 j] using this) g' w' _ dY (hh.step hs) (qP (he.mono hs.dB) hd hr) iK⟩
end call
def St.set (st:St) (o:Nat) (x:dD):St:=⟨st.aQ.set o x,st.ar⟩
def St.add (st:St) (x:dD):St:=⟨st.aQ++[x],st.ar⟩
def St.tok (st:St) (x:iu):St:=⟨st.aQ,st.ar++[x]⟩
def St.bD (st:St) (t:Nat) (x:iu):St:=⟨st.aQ,st.ar.set t x⟩
theorem GC {lim dm:Nat->Nat} {w w':World} (hs:w.heap.size<=w'.heap.size) (h:∀ b,b<w.heap.size->lim b<=dm b/\(lim b=0∨w'.heap[b]?=w.heap[b]?)):Mj lim w dm w' :=
 ⟨hs,λb hb=>(h b hb).1,λb off hb ho=>by
  rcases (h b hb).2 with h2|h2
  ·omega
  ·exact World.cell?_of_block (w:=w) (a:=⟨b,off,none⟩) h2⟩
section inv
variable {g:b7} {base:Nat} {w:World} {st:St}
theorem Inv.wB (h:Inv g base w st) {o:Nat} (hl:st.live o):g.ob o<w.heap.size/\base<=g.ob o:=by
 obtain ⟨x,hx,fi⟩:=hl;cases x with
 | row ty cs =>
  obtain ⟨h1,h2,vs,h3,_⟩:=h.row o ty cs hx;exact ⟨(zau.1 h3).1,h1⟩
 | map es =>
  obtain ⟨h1,ms,c,h3,_⟩:=h.map o es hx;exact ⟨(zau.1 h3).1,h1⟩
 | raw y =>
  obtain ⟨h1,_,h3⟩:=h.raw o y hx;exact ⟨(zau.1 h3).1,h1⟩
 | gone=>exact absurd rfl fi
theorem rY {st:St} {o o':Nat} {x:dD} (ho:st.live o) (h:(st.set o x).live o'):st.live o':=by
 obtain ⟨y,hy,fi⟩:=h;simp only [St.set,zbl] at hy;split at hy
 ·rename_i e;subst e;exact ho
 ·exact ⟨y,hy,fi⟩
theorem Inv.setBlock (h:Inv g base w st) {o:Nat} (hl:st.live o) {w':World} {x:dD} (Ao:g.lim (g.ob o)=0) (fT:w'.heap.size=w.heap.size) (uD:∀ b,b≠g.ob o->w'.heap[b]?=w.heap[b]?)
  (NN:w'.os=w.os) (htp:w'.tape=w.tape) (V6:w'.output=w.output)
  (rX:u9 g w st g w' (st.set o x)->∀ ty cs,x=.row ty cs->∃ vs:Array Value,w'.heap[g.ob o]?=some (.cells vs ty (0,0))/\vs.size=cs.length/\∀ (i:Nat) c u,cs[i]?=some c->vs[i]?=some u->bK g w' (st.set o x) c u/\u.oneCell'=true)
  (QN:u9 g w st g w' (st.set o x)->∀ es,x=.map es->∃ (ms:Array MapEntry) (clock:Nat),w'.heap[g.ob o]?=some (.map ms clock)/\ms.size=es.length /\
   (∀ (i:Nat) k y (m:MapEntry),es[i]?=some (k,y)->ms[i]?=some m->m.key=k/\bK g w' (st.set o x) y m.val) /\
   (∀ (i:Nat) (m:MapEntry),ms[i]?=some m->m.born<clock) /\
   (∀ (i j:Nat) (m m':MapEntry),ms[i]?=some m->ms[j]?=some m'->m.born=m'.born->i=j))
  (QM:∀ y,x=.raw y->w'.heap[g.ob o]?=some y:=by (intro y hy;cases hy)) :
  Inv g base w' (st.set o x)/\Step base g w st g w' (st.set o x):=by
 obtain ⟨cJ,kW⟩:=h.wB hl;have n9:Below base w w':=⟨NN,htp,V6,by omega,λk hk=>uD k (by omega)⟩;have hs:u9 g w st g w' (st.set o x):=by
  refine ⟨GC (by omega) (λb hb=>⟨zar _,?_⟩),λ_ _=>rfl,by simp [St.set],λt e sz n ht=>⟨n,ht,zar _,λ_=>rfl⟩,zar _,vD λ_ _ _ _ h _=>⟨h,rfl⟩⟩;by_cases jZ:b=g.ob o
  ·subst jZ;exact .inl Ao
  ·exact .inr (uD b jZ)
 have V7:o<st.aQ.length:=by obtain ⟨y,hy,_⟩:=hl;exact (zad.1 hy).1
 have iD:∀ o' y,o'≠o->(st.set o x).aQ[o']?=some y->st.aQ[o']?=some y:=by
  intro o' y fi hy;simpa [St.set,zbl,zcn fi] using hy
 have TA:∀ o' y,(st.set o x).aQ[o']?=some (.raw y)->base<=g.ob o'/\g.lim (g.ob o')=0/\w'.heap[g.ob o']?=some y:=by
  intro o' y hx;by_cases ho:o'=o
  ·subst ho;have kq:x=.raw y:=by simpa [St.set,zbl,V7] using hx
   exact ⟨kW,Ao,QM y kq⟩
  ·have hy:=iD o' _ ho hx;obtain ⟨h1,h2,h3⟩:=h.raw o' y hy;have fi:=h.ne o' o ho ⟨_,hy,by simp⟩ hl;exact ⟨h1,h2,by rw [uD _ fi];exact h3⟩
 refine ⟨⟨by rw [fT];exact h.base,?_,?_,TA,?_,?_,?_,?_,h.DO.below n9,?_⟩,⟨hs,n9,λ_ _=>rfl,λb _ hn=>⟨uD b (λe=>hn (.inl ⟨o,hl,e.symm⟩)),rfl⟩,λb _ hw=>by
  rcases hw with ⟨o',h1,h2⟩|h1
  ·exact .inl ⟨o',rY hl h1,h2⟩
  ·exact .inr h1⟩⟩
 ·intro o' ty cs hx;by_cases ho:o'=o
  ·subst ho;have kq:x=.row ty cs:=by simpa [St.set,zbl,V7] using hx
   obtain ⟨vs,h1,h2,h3⟩:=rX hs ty cs kq;exact ⟨kW,Ao,vs,h1,h2,h3⟩
  ·have hy:=iD o' _ ho hx;obtain ⟨h1,h2,vs,h3,h4,h5⟩:=h.row o' ty cs hy;have fi:=h.ne o' o ho ⟨_,hy,by simp⟩ hl;exact ⟨h1,h2,vs,by rw [uD _ fi];exact h3,h4,λi c u hc hu=>⟨(h5 i c u hc hu).1.mono hs,(h5 i c u hc hu).2⟩⟩
 ·intro o' es hx;by_cases ho:o'=o
  ·subst ho;have kq:x=.map es:=by simpa [St.set,zbl,V7] using hx
   obtain ⟨ms,c,h1,h2,h3⟩:=QN hs es kq;exact ⟨kW,ms,c,h1,h2,h3⟩
  ·have hy:=iD o' _ ho hx;obtain ⟨h1,ms,c,h3,h4,h5,h6⟩:=h.map o' es hy;have fi:=h.ne o' o ho ⟨_,hy,by simp⟩ hl;exact ⟨h1,ms,c,by rw [uD _ fi];exact h3,h4,λi k y m a b=>⟨(h5 i k y m a b).1,(h5 i k y m a b).2.mono hs⟩,h6⟩
 ·exact λo1 o2 fi h1 h2=>h.ne o1 o2 fi (rY hl h1) (rY hl h2)
 ·intro t e sz n ht;obtain ⟨xs,h1,h2⟩:=h.tail t e sz n ht;refine ⟨xs,?_,h2⟩;obtain ⟨k1,k2⟩:=h1;refine ⟨k1,?_⟩;rcases k2 with k2|⟨gb,cap,cur,e1,e2,e3,e4⟩
  ·exact .inl k2
  ·refine .inr ⟨gb,cap,cur,e1,e2,?_,e4⟩;rw [uD gb ?_]
   ·exact e3
   ·intro hgb;subst hgb;exact h.iT t _ o ht hl (by rw [e1];rfl)
 ·exact h.oH
 ·exact λt x' o' ht Tz=>h.iT t x' o' ht (rY hl Tz)
 ·intro t e sz n rows ht;obtain ⟨xs,h1,h2,h3⟩:=h.own t e sz n rows ht;exact ⟨xs,fv h1 λb jZ=>uD b λhgb=>h.iT t _ o ht hl (by rw [jZ,hgb]),h2,h3.mono hs.cX⟩
theorem Inv.newObj (h:Inv g base w st) (x:dD) (b:Obj)
  (rX:∀ ty cs,x=.row ty cs->∃ vs:Array Value,b=.cells vs ty (0,0)/\vs.size=cs.length/\∀ (i:Nat) c u,cs[i]?=some c->vs[i]?=some u->bK g w st c u/\u.oneCell'=true)
  (QN:∀ es,x=.map es->es=[]/\b=.map #[] 0)
  (QM:∀ y,x=.raw y->b=y:=by (intro y hy;cases hy)) :
  ∃ g',Inv g' base (w.alloc b) (st.add x)/\Step base g w st g' (w.alloc b) (st.add x)/\g'.ob st.aQ.length=w.heap.size:=by
 let g':b7:=⟨λk=>if k=w.heap.size then 0 else g.lim k,λo=>if o=st.aQ.length then w.heap.size else g.ob o,g.tk⟩
 have n9:Below w.heap.size w (w.alloc b):=(Below.refl _ w).alloc (zar _) b;have Ap:∀ k,k<w.heap.size->g'.lim k=g.lim k:=λk hk=>by show (if k=w.heap.size then 0 else g.lim k)=_;rw [zab (by omega)]
 have zQ:∀ o,o<st.aQ.length->g'.ob o=g.ob o:=λo ho=>by show (if o=st.aQ.length then _ else g.ob o)=_;rw [zab (by omega)]
 have xZ:g'.ob st.aQ.length=w.heap.size:=by show (if _=st.aQ.length then _ else _)=_;rw [zaa rfl]
 have hs:u9 g w st g' (w.alloc b) (st.add x):=by
  refine ⟨⟨by simp,λk hk=>by rw [Ap k hk];exact zar _,λk off hk _=>n9.cell (p:=⟨k,off,none⟩) hk⟩,zQ,by simp [St.add],λt e sz n ht=>⟨n,ht,zar _,λ_=>rfl⟩,zar _,vD λ_ _ _ _ h _=>⟨h,rfl⟩⟩
 have hold:∀ o y,o<st.aQ.length->(st.add x).aQ[o]?=some y->st.aQ[o]?=some y:=by
  intro o y ho hy;simpa [St.add,zao ho] using hy
 have tE:∀ o y,(st.add x).aQ[o]?=some y->¬ o<st.aQ.length->o=st.aQ.length/\y=x:=by
  intro o y hy ho;have cJ:=(zad.1 hy).1;simp [St.add] at cJ;have:o=st.aQ.length:=by omega
  subst this;simpa [St.add,zfc] using hy
 have vG:∀ o,o<st.aQ.length->(st.add x).live o->st.live o:=λo ho ⟨y,hy,fi⟩=>⟨y,hold o y ho hy,fi⟩
 have Kb:(w.alloc b).heap[w.heap.size]?=some b:=heap_alloc_new w b;have TA:∀ o y,(st.add x).aQ[o]?=some (.raw y)->base<=g'.ob o/\g'.lim (g'.ob o)=0/\(w.alloc b).heap[g'.ob o]?=some y:=by
  intro o y hx;by_cases ho:o<st.aQ.length
  ·obtain ⟨h1,h2,h3⟩:=h.raw o y (hold o _ ho hx);have cJ:=(zau.1 h3).1;rw [zQ o ho,Ap _ cJ,n9.block _ cJ];exact ⟨h1,h2,h3⟩
  ·obtain ⟨rfl,Zk⟩:=tE o _ hx ho;rw [xZ];exact ⟨h.base,by show (if w.heap.size=w.heap.size then 0 else _)=0;rw [zaa rfl],by rw [Kb,QM y Zk.symm]⟩
 refine ⟨g',⟨⟨by have:=h.base;simp;omega,?_,?_,TA,?_,?_,?_,?_,h.DO.below (n9.mono h.base),?_⟩,⟨hs,n9.mono h.base,λk hk=>Ap k (zbm hk h.base),λk hk _=>⟨n9.block k hk,Ap k hk⟩,λk hk hw=>by
  rcases hw with ⟨o,h1,h2⟩|h1
  ·by_cases ho:o<st.aQ.length
   ·exact .inl ⟨o,vG o ho h1,by rw [←zQ o ho];exact h2⟩
   ·obtain ⟨y,hy,_⟩:=h1;obtain ⟨rfl,_⟩:=tE o _ hy ho;rw [xZ] at h2;omega
  ·exact .inr h1⟩,xZ⟩⟩
 ·intro o ty cs hx;by_cases ho:o<st.aQ.length
  ·obtain ⟨h1,h2,vs,h3,h4,h5⟩:=h.row o ty cs (hold o _ ho hx);have cJ:=(zau.1 h3).1;rw [zQ o ho,Ap _ cJ,n9.block _ cJ];exact ⟨h1,h2,vs,h3,h4,λi c u hc hu=>⟨(h5 i c u hc hu).1.mono hs,(h5 i c u hc hu).2⟩⟩
  ·obtain ⟨rfl,Zk⟩:=tE o _ hx ho;obtain ⟨vs,h1,h2,h3⟩:=rX ty cs Zk.symm;rw [xZ];refine ⟨h.base,by show (if w.heap.size=w.heap.size then 0 else _)=0;rw [zaa rfl],vs,by rw [Kb,h1],h2,λi c u hc hu=>⟨(h3 i c u hc hu).1.mono hs,(h3 i c u hc hu).2⟩⟩
 ·intro o es hx;by_cases ho:o<st.aQ.length
  ·obtain ⟨h1,ms,c,h3,h4,h5,h6⟩:=h.map o es (hold o _ ho hx);have cJ:=(zau.1 h3).1;rw [zQ o ho,n9.block _ cJ];exact ⟨h1,ms,c,h3,h4,λi k y m a b=>⟨(h5 i k y m a b).1,(h5 i k y m a b).2.mono hs⟩,h6⟩
  ·obtain ⟨rfl,Zk⟩:=tE o _ hx ho;obtain ⟨rfl,h2⟩:=QN es Zk.symm;rw [xZ];exact ⟨h.base,#[],0,by rw [Kb,h2],rfl,λi k y m a _=>by simp at a,λi m a=>by simp at a,λi j m m' a=>by simp at a⟩
 ·intro o1 o2 fi h1 h2;by_cases Gx:o1<st.aQ.length <;> by_cases Ph:o2<st.aQ.length
  ·rw [zQ o1 Gx,zQ o2 Ph];exact h.ne o1 o2 fi (vG o1 Gx h1) (vG o2 Ph h2)
  ·obtain ⟨y,hy,_⟩:=h2;obtain ⟨rfl,_⟩:=tE o2 _ hy Ph;rw [zQ o1 Gx,xZ];have:=(h.wB (vG o1 Gx h1)).1;omega
  ·obtain ⟨y,hy,_⟩:=h1;obtain ⟨rfl,_⟩:=tE o1 _ hy Gx;rw [zQ o2 Ph,xZ];have:=(h.wB (vG o2 Ph h2)).1;omega
  ·obtain ⟨y,hy,_⟩:=h1;obtain ⟨y',JX,_⟩:=h2;exact absurd ((tE o1 _ hy Gx).1.trans (tE o2 _ JX Ph).1.symm) fi
 ·intro t e sz n ht;obtain ⟨xs,h1,h2⟩:=h.tail t e sz n ht;exact ⟨xs,h1.alloc b,λk hk=>by rw [Ap k (h1.lt k hk).2];exact h2 k hk⟩
 ·exact h.oH
 ·intro t x' o ht hl;by_cases ho:o<st.aQ.length
  ·rw [zQ o ho];exact h.iT t x' o ht (vG o ho hl)
  ·obtain ⟨y,hy,_⟩:=hl;obtain ⟨rfl,_⟩:=tE o _ hy ho;rw [xZ];intro hk;have:=(h.wz ht hk).2;omega
 ·intro t e sz n rows ht;obtain ⟨xs,h1,h2,h3⟩:=h.own t e sz n rows ht;exact ⟨xs,h1.alloc b,λk hk=>by rw [Ap k (h1.lt k hk).2];exact h2 k hk,h3.mono hs.cX⟩
end inv
def fW (P:Program) (s:TypeId) (f:Nat):Option Nat :=
 match P.underlying s with
 | some (.struct fs)=>match fs[f]? with
  | some fl=>match P.info? fl.type with
   | some i=>if i.size=0 then none else some fl.offset
   | none=>none
  | none=>none
 | _=>none
theorem tF {P:Program} {s:TypeId} {f off:Nat} (h:fW P s f=some off) (a:Addr) (w:World):(Instr.fieldAt s (.pointer (some a)) f).run P w=.ok (.pointer (some (a.add off))) w:=by
 unfold fW at h;split at h
 ·rename_i fs hu;split at h
  ·rename_i fl hf;split at h
   ·rename_i i hi;split at h
    ·cases h
    ·rename_i fT;simp only [Option.some.injEq] at h;subst h;simp [Instr.fieldAt,run_underlying hu,hf,Instr.sureAddr,fieldPlace,sizeOf,typeInfo,hi,fT]
   ·cases h
  ·cases h
 ·cases h
def Pj:List EV->Option (List D)
 | []=>some []
 | .d x::l=>match Pj l with
  | some r=>some (x::r)
  | none=>none
 | _::_=>none
theorem Kc:∀ {l:List EV} {ds:List D},Pj l=some ds->l=ds.map EV.d
 | [],ds,h=>by simp [Pj] at h;subst h;rfl
 | .d x::l,ds,h=>by
  unfold Pj at h;split at h
  ·rename_i r hr;simp only [Option.some.injEq] at h;subst h;rw [Kc hr];rfl
  ·cases h
 | .ref _ _::l,ds,h=>by cases h
 | .JW _ _ _ _::l,ds,h=>by cases h
 | .cY _ _ _::l,ds,h=>by cases h
 | .mp _::l,ds,h=>by cases h
 | .wv _ _::l,ds,h=>by cases h
 | .agg _::l,ds,h=>by cases h
 | .eF _::l,ds,h=>by cases h
 | .gd _ _::l,ds,h=>by cases h
def Dk:EV->Bool->Option Bool
 | .d (.ex (.bool b)),true=>some b
 | .d (.ex (.bool b)),false=>some (!b)
 | .gd c (.d (.ex (.bool b))),true=>some (c && b)
 | .gd c (.d (.ex (.bool b))),false=>some (c && !b)
 | _,_=>none
def V8:Value->Option Bool
 | .bool c=>some c
 | _=>none
theorem tr {g:b7} {w:World} {st:St} {e:EV} {want b:Bool} {v:Value} (h:Dk e want=some b) (hv:bK g w st e v):(V8 v==some want)=b:=by
 unfold Dk at h;split at h
 ·cases h;rw [hv.bN];cases b <;> rfl
 ·rename_i c;cases h;rw [hv.bN];cases c <;> rfl
 ·rename_i c c';cases h;cases hv with
  | gd _ _ _ h0 h1 =>
   cases c with
   | false=>rw [h0 rfl];rfl
   | true=>rw [(h1 rfl).bN];cases c' <;> rfl
 ·rename_i c c';cases h;cases hv with
  | gd _ _ _ h0 h1 =>
   cases c with
   | false=>rw [h0 rfl];rfl
   | true=>rw [(h1 rfl).bN];cases c' <;> rfl
 ·cases h
def zR (b:Bool) (env:Env):Env->Prop
 | []=>True
 | (i,y)::t=>(lookup i env=some y∨lookup i env=some (.gd b y)∨∃ a z,y=.gd a z/\lookup i env=some (.gd (b && a) z))/\zR b env t
theorem zR.get {b:Bool} {env:Env}:∀ {env':Env},zR b env env'->∀ i y,lookup i env'=some y->lookup i env=some y∨lookup i env=some (.gd b y)∨∃ a z,y=.gd a z/\lookup i env=some (.gd (b && a) z)
 | [],_,i,y,h=>by simp [lookup] at h
 | (j,z)::t,⟨hh,ht⟩,i,y,h=>by
  unfold lookup at h;cases hb:Nat.beq i j with
  | true =>
   rw [hb] at h;simp only [Option.some.injEq] at h;have:=zav hb;subst this;subst h;exact hh
  | false =>
   rw [hb] at h;exact ht.get i y h
theorem dV.gd {g:b7} {w:World} {st:St} {env env':Env} {tmps:Array Value} {b:Bool} (h:dV g w st env tmps) (hg:zR b env env') (hb:b=true):dV g w st env' tmps:=by
 intro i y hy;rcases hg.get i y hy with h1|h1|⟨a,z,rfl,h1⟩
 ·exact h i y h1
 ·obtain ⟨v,h2,h3⟩:=h i _ h1;cases h3 with
  | gd _ _ _ _ h4=>exact ⟨v,h2,h4 hb⟩
 ·obtain ⟨v,h2,h3⟩:=h i _ h1;rw [hb,zcg] at h3;exact ⟨v,h2,h3⟩
section guard
variable {P:Program} {f:Ctx} {N:Nat} {S:Start} {Q:EV->St->Prop} {k:List Item} {env:Env} {st:St} {ops rest:List Oper}
theorem cn.guard {d t:Tmp} {op:Op} {ty:TypeId} {pos:String} {after:Array Edge} {j:Nat} {want b:Bool} {c x:EV} {env':Env} (hj:(ops[j]?).bind (·.dst)=some t) (hl:lookup t env=some c) (hc:Dk c want=some b)
  (hE:zR b env env') (hd:gD N (some d)=true) (h:b=true->aL P env' st ⟨some d,op,ty,pos,after,some (j,want)⟩ x) (hk:cn P f N S Q ops rest k ((d,.gd b x)::env) st) :
  cn P f N S Q ops (⟨some d,op,ty,pos,after,some (j,want)⟩::rest) k env st:=by
 intro i hi g w tmps hinv hh he hn;have ho:ops.toArray[i]?=some ⟨some d,op,ty,pos,after,some (j,want)⟩:=by simpa using (hi 0).symm
 obtain ⟨v,hv,hr⟩:=he t c hl;have hw:Region.wanted ⟨some d,op,ty,pos,after,some (j,want)⟩ (yielded ops.toArray tmps)=b:=by
  rw [←tr hc hr];have JY:((ops.toArray)[j]?).bind (·.dst)=some t:=by simpa using hj
  simp only [Region.wanted,yielded,JY,zac,hv];cases v <;> rfl
 rw [zai,iU];subst hn;have hi':∀ j:Nat,rest[j]?=ops[i+1+j]?:=λj=>by have:=hi (j+1);simpa [zcp,zdm 1 j] using this
 cases b with
 | false=>exact eH.xX ho hw (hk (i+1) hi' g w _ hinv hh (qP (d:=some d) he hd (.gd _ _ _ (λ_=>rfl) (λh=>by cases h))) iK)
 | true =>
  obtain ⟨u,h1,h2⟩:=h rfl g S.base w tmps hinv (he.gd hE rfl);exact eH.value ho hw (h2 w (.refl _ _)) (hk (i+1) hi' g w _ hinv hh (qP (d:=some d) he hd (.gd _ _ _ (λh=>by cases h) (λ_=>h1))) iK)
theorem cn.q {d:Option Tmp} {op:Op} {ty:TypeId} {pos:String} {after:Array Edge} {x:EV} (h:aL P env st ⟨d,op,ty,pos,after,none⟩ x) (hd:gD N d=true) (hk:cn P f N S Q ops rest k (env.put d x) st) :
  cn P f N S Q ops (⟨d,op,ty,pos,after,none⟩::rest) k env st:=.op rfl hd h.v hk
theorem cn.v {d:Option Tmp} {op:Op} {ty:TypeId} {pos:String} {after:Array Edge} {x:EV} {st':St} (h:xY P S.base env st ⟨d,op,ty,pos,after,none⟩ x st') (hd:gD N d=true) (hk:cn P f N S Q ops rest k (env.put d x) st') :
  cn P f N S Q ops (⟨d,op,ty,pos,after,none⟩::rest) k env st:=.op rfl hd h hk
theorem cn.u {d:Option Tmp} {op:Op} {ty:TypeId} {pos:String} {after:Array Edge} {st':St} (h:Im P S.base env st ⟨d,op,ty,pos,after,none⟩ st') (hd:gD N d=true) (hk:cn P f N S Q ops rest k (env.put d (.d .any)) st') :
  cn P f N S Q ops (⟨d,op,ty,pos,after,none⟩::rest) k env st:=.opU rfl hd h hk
theorem cn.sub {env':Env} (hs:df env env') (h:cn P f N S Q ops rest k env' st):cn P f N S Q ops rest k env st:=λi hi=>.sub hs (h i hi)
end guard
section q
variable {P:Program} {env:Env} {st:St} {d:Option Tmp} {ty:TypeId} {pos:String} {after:Array Edge} {gd:Option (Nat×Bool)} {t t2:TypeId} {x y:Operand}
theorem TQ {lim:Nat->Nat} {w:World} {cs:List D} {b off n:Nat} (h:dA lim w (.ro cs) (.pointer (some ⟨b,off,none⟩))):dA lim w (.ro (cs.drop n)) (.pointer (some (Addr.add ⟨b,off,none⟩ n))):=by
 rw [Addr.add_lit];cases h with
 | ro _ _ _ hx hc =>
  refine .ro _ b (off+n) ?_ ?_
  ·intro k hk;simp only [zbg] at hk;have:=hx (n+k) (by omega);rw [zcp];exact this
  ·intro j c u sF hu;rw [zbd] at sF;rw [zcp] at hu;exact hc (n+j) c u sF hu
theorem NO {lim:Nat->Nat} {w:World} {cs:List D} {v:Value} (h:dA lim w (.ro cs) v):∃ b off,v=.pointer (some ⟨b,off,none⟩):=by
 cases h with|ro _ b off=>exact ⟨b,off,rfl⟩
theorem Pk {s:TypeId} {f off:Nat} {cs:List D} (hf:fW P s f=some off) (hx:cX env x=some (.d (.ro cs))):aL P env st ⟨d,.fieldAddr s x f,ty,pos,after,gd⟩ (.d (.ro (cs.drop off))):=λg base w tmps hi he=>by
 cases aP he hx with
 | d _ _ h =>
  obtain ⟨b,o,hv⟩:=NO h;rw [hv] at h;exact ⟨_,.d _ _ (TQ h),λw' _=>by simp [execOp,hv,tF hf]⟩
theorem bz {s:TypeId} {f off o V9:Nat} (hf:fW P s f=some off) (hx:cX env x=some (.ref o V9)):aL P env st ⟨d,.fieldAddr s x f,ty,pos,after,gd⟩ (.ref o (V9+off)):=λg base w tmps hi he=>by
 have h:=aP he hx;generalize hv:Act.eval ⟨tmps,[]⟩ x=v at h;cases h with
 | ref _ _ cJ=>exact ⟨.pointer (some ⟨g.ob o,V9+off,none⟩),.ref _ _ cJ,λw' _=>by simp [execOp,hv,tF hf,Addr.add_lit]⟩
theorem rE {w:World} {b off n:Nat} {vs:List Value} (hl:vs.length=n) (h:∀ j u,vs[j]?=some u->w.cell? ⟨b,off+j,none⟩=some u):(loadCells ⟨b,off,none⟩ n).run P w=.ok vs.toArray w:=by
 subst hl;exact run_loadCells_list w _ vs λj u hu=>by rw [Addr.add_lit];exact h j u hu
theorem TS {lim:Nat->Nat} {w:World} {cs:List D} {b off:Nat} (h:dA lim w (.ro cs) (.pointer (some ⟨b,off,none⟩))) (n:Nat) (hn:n<=cs.length) :
  ∃ vs:List Value,vs.length=n/\(∀ (j:Nat) u,vs[j]?=some u->w.cell? ⟨b,off+j,none⟩=some u/\u.oneCell'=true/\∀ c,cs[j]?=some c->dA lim w c u):=by
 cases h with
 | ro _ _ _ hx hc =>
  refine ⟨(List.range n).map λj=>(w.cell? ⟨b,off+j,none⟩).getD undef,by simp,λj u hu=>?_⟩;rw [zbe] at hu;by_cases hj:j<n
  ·obtain ⟨hl,u',vC,h1⟩:=hx j (by omega);simp [List.getElem?_range hj,vC] at hu;subst hu;exact ⟨vC,h1,λc A2=>hc j c _ A2 vC⟩
  ·simp [zbp (show (List.range n).length<=j by simp;omega)] at hu
theorem NP {cs:List D} {n:Nat} (h1:(P.underlying t).map lT=some false) (hs:(P.info? t).map (·.size)=some n) (hn:n<=cs.length) (hx:cX env x=some (.d (.ro cs))) :
  aL P env st ⟨d,.load t x,ty,pos,after,gd⟩ (.d (.agg (cs.take n))):=λg base w tmps hinv he=>by
 cases aP he hx with
 | d _ _ h =>
  obtain ⟨b,off,hv⟩:=NO h;rw [hv] at h;obtain ⟨vs,hl,DQ⟩:=TS h n hn;refine ⟨.agg vs.toArray,.d _ _ (.agg _ _ (by simp [hl];omega) (λi u hu=>(DQ i u (by simpa using hu)).2.1) λi c u hc hu=>?_),λw' hb=>?_⟩
  ·rw [zal] at hc;split at hc
   ·exact (DQ i u (by simpa using hu)).2.2 c hc
   ·cases hc
  ·obtain ⟨inf,lY,fT⟩:∃ inf,P.info? t=some inf/\inf.size=n:=by
    cases hh:P.info? t with
    | none=>rw [hh] at hs;cases hs
    | some inf=>rw [hh] at hs;exact ⟨inf,rfl,by simpa using hs⟩
   have EU:=rE (P:=P) (w:=w') (b:=b) (off:=off) hl (λj u hu=>by
    have h3:=(DQ j u hu).1;exact (hb.cell (World.block_lt_of_cell? w _ h3)).trans h3)
   simp [execOp,hv,Instr.loadAt,Instr.sureAddr,loadVar,yT h1,sizeOf,typeInfo,lY,fT,EU]
theorem cw {o off:Nat} {T:TypeId} {cs:List EV} {c:EV} (h1:(P.underlying t).map lT=some true) (hx:cX env x=some (.ref o off)) (ho:st.aQ[o]?=some (.row T cs)) (hc:cs[off]?=some c) :
  aL P env st ⟨d,.load t x,ty,pos,after,gd⟩ c:=λg base w tmps hinv he=>by
 have h:=aP he hx;generalize hv:Act.eval ⟨tmps,[]⟩ x=v at h;cases h with
 | ref _ _ cJ =>
  obtain ⟨_,_,vs,hb,fT,zS⟩:=hinv.row o T cs ho;have Zl:off<vs.size:=by rw [fT];exact (zad.1 hc).1
  have hu:vs[off]?=some vs[off]:=zbi Zl;have fg:w.cell? ⟨g.ob o,off,none⟩=some vs[off]:=by rw [cell_of_row w _ off vs T (0,0) hb];exact hu
  refine ⟨vs[off],(zS off c _ hc hu).1,λw' jZ=>?_⟩;have Wa:w'.cell? ⟨g.ob o,off,none⟩=some vs[off]:=(jZ.cell (World.block_lt_of_cell? w _ fg)).trans fg;simp [execOp,hv,Instr.loadAt,Instr.sureAddr,loadVar,vE h1,Wa]
theorem Kd {g:b7} {w:World} {b n off:Nat} {T:TypeId} {cs:List EV} {vs:Array Value} (hb:w.heap[b]?=some (.cells vs T (0,0))) (fT:vs.size=cs.length) (hn:off+n<=cs.length) :
  ((vs.toList.drop off).take n).length=n/\∀ (j:Nat) u,((vs.toList.drop off).take n)[j]?=some u->w.cell? ⟨b,off+j,none⟩=some u/\vs[off+j]?=some u:=by
 refine ⟨by simp;omega,λj u hu=>?_⟩
 rw [zal] at hu;split at hu
 ·rw [zbd] at hu;have:vs[off+j]?=some u:=by simpa using hu
  exact ⟨by rw [cell_of_row w _ _ vs T (0,0) hb];exact this,this⟩
 ·cases hu
theorem bP {o off n:Nat} {T:TypeId} {cs:List EV} {ds:List D} (h1:(P.underlying t).map lT=some false) (hs:(P.info? t).map (·.size)=some n) (hx:cX env x=some (.ref o off)) (ho:st.aQ[o]?=some (.row T cs))
  (hn:off+n<=cs.length) (hc:Pj ((cs.drop off).take n)=some ds):aL P env st ⟨d,.load t x,ty,pos,after,gd⟩ (.d (.agg ds)):=λg base w tmps hinv he=>by
 have h:=aP he hx;generalize hv:Act.eval ⟨tmps,[]⟩ x=v at h;cases h with
 | ref _ _ cJ =>
  obtain ⟨_,_,vs,hb,fT,zS⟩:=hinv.row o T cs ho;obtain ⟨hl,DQ⟩:=Kd (g:=g) (w:=w) (n:=n) (off:=off) hb fT hn;have hds:=Kc hc;refine ⟨.agg ((vs.toList.drop off).take n).toArray,.d _ _ (.agg _ _ ?_ ?_ ?_),λw' jZ=>?_⟩
  ·have:=zbq List.length hds;simp at this hl ⊢;omega
  ·intro i u hu;have vC:=DQ i u (by simpa using hu);have j0:off+i<cs.length:=by rw [←fT];exact (zau.1 vC.2).1
   exact (zS (off+i) cs[off+i] u (zaf j0) vC.2).2
  ·intro i c u sF hu;have vC:=DQ i u (by simpa using hu);have qK:((cs.drop off).take n)[i]?=some (.d c):=by rw [hds,zbe,sF];rfl
   rw [zal] at qK;split at qK
   ·rw [zbd] at qK;cases (zS (off+i) _ u qK vC.2).1 with|d _ _ h=>exact h
   ·cases qK
  ·obtain ⟨inf,lY,Ip⟩:∃ inf,P.info? t=some inf/\inf.size=n:=by
    cases hh:P.info? t with
    | none=>rw [hh] at hs;cases hs
    | some inf=>rw [hh] at hs;exact ⟨inf,rfl,by simpa using hs⟩
   have EU:=rE (P:=P) (w:=w') (b:=g.ob o) (off:=off) hl (λj u hu=>by
    have h3:=(DQ j u hu).1;exact (jZ.cell (World.block_lt_of_cell? w _ h3)).trans h3)
   simp [execOp,hv,Instr.loadAt,Instr.sureAddr,loadVar,yT h1,sizeOf,typeInfo,lY,Ip,EU]
theorem cC {cs:List D} {i:Nat} {c:D} (hx:cX env x=some (.d (.eF cs))) (hc:cs[i]?=some c):aL P env st ⟨d,.extract x i,ty,pos,after,gd⟩ (.d c):=λg base w tmps hinv he=>by
 cases aP he hx with
 | d _ _ h =>
  generalize hv:Act.eval ⟨tmps,[]⟩ x=v at h;cases h with
  | eF _ vs hs h =>
   have hi:i<vs.size:=by rw [hs];exact (zad.1 hc).1
   have hu:vs[i]?=some vs[i]:=zbi hi;exact ⟨vs[i],.d _ _ (h i c _ hc hu),λw' _=>by simp [execOp,hv,Instr.extract,hu]⟩
theorem Mx {cs:List EV} {i:Nat} {c:EV} (hx:cX env x=some (.eF cs)) (hc:cs[i]?=some c):aL P env st ⟨d,.extract x i,ty,pos,after,gd⟩ c:=λg base w tmps hinv he=>by
 have h:=aP he hx;generalize hv:Act.eval ⟨tmps,[]⟩ x=v at h;cases h with
 | eF _ vs hs h =>
  have hi:i<vs.size:=by rw [hs];exact (zad.1 hc).1
  have hu:vs[i]?=some vs[i]:=zbi hi;exact ⟨vs[i],h i c _ hc hu,λw' _=>by simp [execOp,hv,Instr.extract,hu]⟩
theorem NQ {s:TypeId} {f off:Nat} {fs:Array Field} {fl:Field} {cs:List D} {c:D} (hu:P.underlying s=some (.struct fs)) (hf:fs[f]?=some fl) (h1:(P.underlying fl.type).map lT=some true) (ho:fl.offset=off)
  (hx:cX env x=some (.d (.agg cs))) (hc:cs[off]?=some c):aL P env st ⟨d,.field s x f,ty,pos,after,gd⟩ (.d c):=λg base w tmps hinv he=>by
 cases aP he hx with
 | d _ _ h =>
  generalize hv:Act.eval ⟨tmps,[]⟩ x=v at h;cases h with
  | agg _ vs hs Mk h =>
   have hi:off<vs.size:=by rw [hs];exact (zad.1 hc).1
   have vC:vs[off]?=some vs[off]:=zbi hi;exact ⟨vs[off],.d _ _ (h off c _ hc vC),λw' _=>by simp [execOp,hv,Instr.field,run_underlying hu,hf,asAgg,part,vE h1,ho,vC]⟩
end q
def gF:EV->Option (List EV)
 | .d (.ex v)=>if v.oneCell' then some [.d (.ex v)] else none
 | .d (.agg cs)=>some (cs.map EV.d)
 | .d (.sl sz rows)=>some [.d (.sl sz rows)]
 | .d (.ro cs)=>some [.d (.ro cs)]
 | .d (.e0 sz)=>some [.d (.e0 sz)]
 | .ref o off=>some [.ref o off]
 | .JW o off n c=>some [.JW o off n c]
 | .cY sz rows t=>some [.cY sz rows t]
 | .mp o=>some [.mp o]
 | .wv f cs=>some [.wv f cs]
 | .vc t k=>some [.vc t k]
 | .vp t k i off=>some [.vp t k i off]
 | .vw t k lo n=>some [.vw t k lo n]
 | .agg cs=>some cs
 | _=>none
theorem cells_one {v:Value} (h:v.oneCell'=true):v.cells=#[v]:=by cases v <;> first|rfl|cases h
theorem qR {g:b7} {w:World} {st:St} {e:EV} {cs:List EV} {v:Value} (h:gF e=some cs) (hv:bK g w st e v) :
  v.cells.size=cs.length/\∀ (i:Nat) c u,cs[i]?=some c->v.cells[i]?=some u->bK g w st c u/\u.oneCell'=true:=by
 have one:∀ (Zm:v.oneCell'=true) (yU:cs=[e]),v.cells.size=cs.length/\∀ (i:Nat) c u,cs[i]?=some c->v.cells[i]?=some u->bK g w st c u/\u.oneCell'=true:=by
  intro Zm yU;subst yU;rw [cells_one Zm];refine ⟨rfl,λi c u hc hu=>?_⟩
  match i with
  | 0=>simp at hc hu;subst hc;subst hu;exact ⟨hv,Zm⟩
  | n+1=>simp at hc
 cases hv with
 | d x _ hd =>
  cases hd with
  | ex =>
   simp only [gF] at h;split at h
   ·rename_i h1;simp only [Option.some.injEq] at h;exact one h1 h.symm
   ·cases h
  | agg ds vs hs h1 hr =>
   simp only [gF,Option.some.injEq] at h;subst h;refine ⟨by simpa [Value.cells] using hs,λi c u hc hu=>?_⟩;rw [zbe] at hc;cases hx:ds[i]? with
   | none=>rw [hx] at hc;cases hc
   | some y =>
    rw [hx] at hc;simp only [Option.map_some,Option.some.injEq] at hc;subst hc;exact ⟨.d _ _ (hr i y u hx (by simpa [Value.cells] using hu)),h1 i u (by simpa [Value.cells] using hu)⟩
  | eF=>cases h
  | nil=>simp only [gF,Option.some.injEq] at h;exact one rfl h.symm
  | sl=>simp only [gF,Option.some.injEq] at h;exact one rfl h.symm
  | ro=>simp only [gF,Option.some.injEq] at h;exact one rfl h.symm
  | e0=>simp only [gF,Option.some.injEq] at h;exact one rfl h.symm
  | any=>cases h
 | ref=>simp only [gF,Option.some.injEq] at h;exact one rfl h.symm
 | JW=>simp only [gF,Option.some.injEq] at h;exact one rfl h.symm
 | cY _ _ _ _ _ _ hd =>
  simp only [gF,Option.some.injEq] at h;obtain ⟨A,c,hv⟩:=Ek hd;exact one (by rw [hv];rfl) h.symm
 | mp=>simp only [gF,Option.some.injEq] at h;exact one rfl h.symm
 | wv=>simp only [gF,Option.some.injEq] at h;exact one rfl h.symm
 | agg ds vs hs h1 hr =>
  simp only [gF,Option.some.injEq] at h;subst h;exact ⟨by simpa [Value.cells] using hs,λi c u hc hu=>⟨hr i c u hc (by simpa [Value.cells] using hu),h1 i u (by simpa [Value.cells] using hu)⟩⟩
 | eF=>cases h
 | gd=>cases h
 | vc _ _ _ _ hf=>simp only [gF,Option.some.injEq] at h;obtain ⟨A,n,c,rfl⟩:=hf;exact one rfl h.symm
 | vp _ _ _ _ _ _ hf=>simp only [gF,Option.some.injEq] at h;obtain ⟨b,o,rfl⟩:=hf;exact one rfl h.symm
 | vw _ _ _ _ _ _ hf=>simp only [gF,Option.some.injEq] at h;obtain ⟨A,c,rfl⟩:=hf;exact one rfl h.symm
section v
variable {P:Program} {base:Nat} {env:Env} {st:St} {d:Option Tmp} {ty:TypeId} {pos:String} {after:Array Edge} {gd:Option (Nat×Bool)} {t t2:TypeId} {x y:Operand}
theorem Zn {e:EV} {cs:List EV} (hx:cX env x=some e) (hc:gF e=some cs):xY P base env st ⟨d,.box t x,ty,pos,after,gd⟩ (.ref st.aQ.length 0) (st.add (.row t cs)):=by
 intro g w tmps hinv he;obtain ⟨h1,h2⟩:=qR hc (aP he hx);obtain ⟨g',hi,hs,A9⟩:=hinv.newObj (.row t cs) (.cells (Act.eval ⟨tmps,[]⟩ x).cells t) (λMy DR e=>by cases e;exact ⟨_,rfl,h1,h2⟩) (λes e=>by cases e)
 refine ⟨.pointer (some ⟨w.heap.size,0,none⟩),g',_,?_,?_,hi,hs⟩
 ·simp [execOp,Instr.box,newVar,newRow]
 ·rw [←A9];exact .ref _ _ (by simp [St.add])
theorem gI {z:Value} {cs:List EV} (hz:(P.info? t).bind (·.zero)=some z) (hc:gF (.d (cv z))=some cs):xY P base env st ⟨d,.alloc t,ty,pos,after,gd⟩ (.ref st.aQ.length 0) (st.add (.row t cs)):=by
 intro g w tmps hinv he;obtain ⟨h1,h2⟩:=qR (g:=g) (w:=w) (st:=st) hc (.d _ _ (qO _ _ z));obtain ⟨g',hi,hs,A9⟩:=hinv.newObj (.row t cs) (.cells z.cells t) (λMy DR e=>by cases e;exact ⟨_,rfl,h1,h2⟩) (λes e=>by cases e)
 obtain ⟨inf,lY,Aq⟩:∃ inf,P.info? t=some inf/\inf.zero=some z:=by
  cases hh:P.info? t with
  | none=>rw [hh] at hz;cases hz
  | some inf=>rw [hh] at hz;exact ⟨inf,rfl,hz⟩
 refine ⟨.pointer (some ⟨w.heap.size,0,none⟩),g',_,?_,?_,hi,hs⟩
 ·simp [execOp,Instr.alloc,zeroValue,typeInfo,lY,Aq,newVar,newRow]
 ·rw [←A9];exact .ref _ _ (by simp [St.add])
def putCells (cs:List EV) (off:Nat) (new:List EV):List EV:=cs.take off++new++cs.drop (off+new.length)
theorem s7 {o off:Nat} {T:TypeId} {cs new:List EV} {e:EV} (hx:cX env x=some (.ref o off)) (hy:cX env y=some e) (ho:st.aQ[o]?=some (.row T cs)) (hc:gF e=some new) (hn:off+new.length<=cs.length)
  (hs:(P.info? t).map (·.size)=some new.length):Im P base env st ⟨d,.store t x y,ty,pos,after,gd⟩ (st.set o (.row T (putCells cs off new))):=by
 intro g w tmps hinv he;have h:=aP he hx;generalize hv:Act.eval ⟨tmps,[]⟩ x=v at h;obtain ⟨k1,k2⟩:=qR hc (aP he hy);generalize hu:Act.eval ⟨tmps,[]⟩ y=u at k1 k2;cases h with
 | ref _ _ cJ =>
  obtain ⟨hb,hl,vs,JZ,fT,zS⟩:=hinv.row o T cs ho;have hlen:u.cells.toList.length=new.length:=by simpa using k1
  have mA:=run_storeCells_at P (g.ob o) off T u.cells.toList 0 vs w JZ (by simp only [zdn,hlen];omega) (λa ha=>by
   obtain ⟨i,hi⟩:=zdg.1 ha;have hi':u.cells[i]?=some a:=by simpa using hi
   have j0:i<new.length:=by rw [←k1];exact (zau.1 hi').1
   exact (k2 i new[i] a (zaf j0) hi').2)
  simp only [zdn] at mA;obtain ⟨inf,lY,Ip⟩:∃ inf,P.info? t=some inf/\inf.size=new.length:=by
   cases hh:P.info? t with
   | none=>rw [hh] at hs;cases hs
   | some inf=>rw [hh] at hs;exact ⟨inf,rfl,by simpa using hs⟩
  obtain ⟨dY,pK⟩:=hinv.setBlock (o:=o) (x:=.row T (putCells cs off new)) (w':=w.setRow (g.ob o) (vs.toList.take off++u.cells.toList++vs.toList.drop (off+u.cells.toList.length)).toArray)
   ⟨_,ho,by simp⟩ hl (by simp) (λb jZ=>setRow_other w _ b _ jZ) rfl rfl rfl
   (λQO My DR kq=>by
    cases kq;refine ⟨_,setRow_heap w _ vs _ T (0,0) JZ,by simp [putCells,fT,k1],λi c a sF ha=>?_⟩;have Ve:bK g w st c a/\a.oneCell'=true:=by
     simp only [putCells] at sF;have QP:(vs.toList.take off++u.cells.toList++vs.toList.drop (off+u.cells.toList.length))[i]?=some a:=by simpa using ha
     by_cases h1:i<off
     ·rw [zat,zao (by simp;omega),zal,zaa h1] at sF QP;exact zS i c a sF (by simpa using QP)
     ·by_cases h2:i<off+new.length
      ·rw [zat,zaw (by simp;omega),zao (by simp [hlen,fT];omega)] at sF QP;have e1:(cs.take off).length=off:=by simp;omega
       have e2:(vs.toList.take off).length=off:=by simp;omega
       rw [e1] at sF;rw [e2] at QP;exact k2 (i-off) c a sF (by simpa using QP)
      ·rw [zaw (by simp [hlen,fT];omega)] at sF QP;have e1:(cs.take off++new).length=off+new.length:=by simp;omega
       have e2:(vs.toList.take off++u.cells.toList).length=off+new.length:=by simp [hlen];omega
       rw [e1,zbd] at sF;rw [e2,zbd,hlen] at QP;exact zS _ c a sF (by simpa using QP)
    exact ⟨Ve.1.mono QO,Ve.2⟩) (λ_ es kq=>by cases kq)
  refine ⟨g,_,?_,dY,pK⟩;simp [execOp,hv,hu,Instr.storeAt,Instr.sureAddr,storeVar,sizeOf,typeInfo,lY,Ip,k1,mA]
end v
def Good (g:b7) (w:World) (st:St) (x:EV) (dm:Nat->Nat) (w':World) (v:Value):Prop :=
 bK { g with lim:=dm } w' st x v/\Below w.heap.size w w'/\∀ b,b<w.heap.size->dm b=g.lim b
def A3 (P:Program) (env:Env) (st:St) (o:Oper) (x:EV):Prop :=
 ∀ g base w tmps,Inv g base w st->dV g w st env tmps ->
  (∃ v dm w',(execOp (Act.eval ⟨tmps,[]⟩) o).run P w=.ok (.value v) w'/\Good g w st x dm w' v) ∨
  (∃ f' args,(execOp (Act.eval ⟨tmps,[]⟩) o).run P w=.ok (.enter f' args) w/\Calls P f' args w λe w'=>∃ v dm,e=.returned v/\Good g w st x dm w' v)
section g
variable {P:Program} {f:Ctx} {N:Nat} {S:Start} {Q:EV->St->Prop} {k:List Item} {env:Env} {st:St} {ops rest:List Oper}
 {d:Option Tmp} {op:Op} {ty:TypeId} {pos:String} {after:Array Edge} {gd:Option (Nat×Bool)} {t t2 e:TypeId} {x y:Operand}
theorem aL.g {o:Oper} {r:EV} (h:aL P env st o r):A3 P env st o r:=λg base w tmps hi he =>
 let ⟨v,h1,h2⟩:=h g base w tmps hi he
 .inl ⟨v,g.lim,w,h2 w (.refl _ _),h1,.refl _ _,λ_ _=>rfl⟩
theorem av {f':FuncId} {l:List Operand} {ts:Array TypeId} {es:List EV} {ds:List D} {r:D} (DP:Enters P f') (h1:Co env l=some es) (h2:Mv es=some ds) (hc:aF P f' ds (·=r)) :
  A3 P env st ⟨d,.call ⟨.value (.func f'),l.toArray,ts⟩,ty,pos,after,gd⟩ (.d r):=λg base w tmps hi he=>by
 refine .inr ⟨f',_,Cp DP w rfl,(hc g.lim w _ (hi.DO.mono hi.base) (.of he h1 h2)).mono ?_⟩;rintro e w' ⟨v,r',dm,rfl,rfl,hr,NR,hb,hl⟩;exact ⟨v,dm,rfl,.d _ _ hr,hb,hl⟩
theorem cn.g {x:EV} (h:A3 P env st ⟨d,op,ty,pos,after,none⟩ x) (hd:gD N d=true) (hk:cn P f N S Q ops rest k (env.put d x) st) :
  cn P f N S Q ops (⟨d,op,ty,pos,after,none⟩::rest) k env st:=by
 intro i hi g w tmps hinv hh he hn;have ho:ops.toArray[i]?=some ⟨d,op,ty,pos,after,none⟩:=by simpa using (hi 0).symm
 have hi':∀ j:Nat,rest[j]?=ops[i+1+j]?:=λj=>by have:=hi (j+1);simpa [zcp,zdm 1 j] using this
 rw [zai,iU];subst hn;rcases h g S.base w tmps hinv he with ⟨v,dm,w',hr,hx,hb,hl⟩|⟨f',args,hr,hc⟩
 ·obtain ⟨dY,hs⟩:=hinv.grow (g':={ g with lim:=dm }) hb hl rfl rfl;exact eH.value ho (by simp [Region.wanted]) hr (hk (i+1) hi' _ w' _ dY (hh.step hs) (qP (he.mono hs.dB) hd hx) iK)
 ·refine eH.call ho (by simp [Region.wanted]) hr (hc.mono ?_);rintro e w' ⟨v,dm,rfl,hx,hb,hl⟩;obtain ⟨dY,hs⟩:=hinv.grow (g':={ g with lim:=dm }) hb hl rfl rfl;exact ⟨v,rfl,hk (i+1) hi' _ w' _ dY (hh.step hs) (qP (he.mono hs.dB) hd hx) iK⟩
theorem cn.ib {d t:Tmp} {j:Nat} {want b:Bool} {c x:EV} {env':Env} (hj:(ops[j]?).bind (·.dst)=some t) (hl:lookup t env=some c) (hc:Dk c want=some b)
  (hE:zR b env env') (hd:gD N (some d)=true) (h:b=true->A3 P env' st ⟨some d,op,ty,pos,after,some (j,want)⟩ x) (hk:cn P f N S Q ops rest k ((d,.gd b x)::env) st) :
  cn P f N S Q ops (⟨some d,op,ty,pos,after,some (j,want)⟩::rest) k env st:=by
 intro i hi g w tmps hinv hh he hn;have ho:ops.toArray[i]?=some ⟨some d,op,ty,pos,after,some (j,want)⟩:=by simpa using (hi 0).symm
 obtain ⟨v,hv,hr⟩:=he t c hl;have hw:Region.wanted ⟨some d,op,ty,pos,after,some (j,want)⟩ (yielded ops.toArray tmps)=b:=by
  rw [←tr hc hr];have JY:((ops.toArray)[j]?).bind (·.dst)=some t:=by simpa using hj
  simp only [Region.wanted,yielded,JY,zac,hv];cases v <;> rfl
 rw [zai,iU];subst hn;have hi':∀ j:Nat,rest[j]?=ops[i+1+j]?:=λj=>by have:=hi (j+1);simpa [zcp,zdm 1 j] using this
 cases b with
 | false=>exact eH.xX ho hw (hk (i+1) hi' g w _ hinv hh (qP (d:=some d) he hd (.gd _ _ _ (λ_=>rfl) (λh=>by cases h))) iK)
 | true =>
  rcases h rfl g S.base w tmps hinv (he.gd hE rfl) with ⟨v,dm,w',hr,hx,hb,hl⟩|⟨f',args,hr,hc⟩
  ·obtain ⟨dY,hs⟩:=hinv.grow (g':={ g with lim:=dm }) hb hl rfl rfl;exact eH.value ho hw hr (hk (i+1) hi' _ w' _ dY (hh.step hs) (qP (d:=some d) (he.mono hs.dB) hd (.gd _ _ _ (λh=>by cases h) (λ_=>hx))) iK)
  ·refine eH.call ho hw hr (hc.mono ?_);rintro e w' ⟨v,dm,rfl,hx,hb,hl⟩;obtain ⟨dY,hs⟩:=hinv.grow (g':={ g with lim:=dm }) hb hl rfl rfl;exact ⟨v,rfl,hk (i+1) hi' _ w' _ dY (hh.step hs) (qP (d:=some d) (he.mono hs.dB) hd (.gd _ _ _ (λh=>by cases h) (λ_=>hx))) iK⟩
theorem kX {sz:Nat}:∀ {rows:List (List D)} (h:∀ row∈rows,row.length=sz) {i j:Nat} {row:List D} {c:D},rows[i]?=some row->row[j]?=some c->rows.flatten[i*sz+j]?=some c
 | [],_,i,j,row,c,hr,_=>by simp at hr
 | r::rows,h,0,j,row,c,hr,hc=>by
  simp at hr;subst hr;rw [zey,zfz,zca,zao (zad.1 hc).1];exact hc
 | r::rows,h,i+1,j,row,c,hr,hc=>by
  have hl:=h r (by simp);rw [zey,zdi,zaw (by omega)];have:=kX (rows:=rows) (λr hr=>h r (by simp [hr])) (by simpa using hr) hc;rw [←this];congr 1;omega
theorem j4 {sz:Nat}:∀ {rows:List (List D)},(∀ row∈rows,row.length=sz)->rows.flatten.length=rows.length*sz
 | [],_=>by simp
 | r::rows,h=>by
  have h1:=h r (by simp);have h2:=j4 (rows:=rows) (λr hr=>h r (by simp [hr]));rw [zey,zak,h1,h2,zai,zdi];omega
theorem TT {g:b7} {w w0:World} {sz cap:Nat} {rows:List (List D)} {vs:Array Value} {e:TypeId} (hw:w0.heap=w.heap) (NN:w0.os=w.os) (htp:w0.tape=w.tape) (V6:w0.output=w.output)
  (hr:∀ row∈rows,row.length=sz) (hc:rows.length<=cap) (hn:rows.length*sz<=vs.size)
  (fg:∀ (i:Nat) c (u:Value),rows.flatten[i]?=some c->vs[i]?=some u->dA g.lim w c u/\u.oneCell'=true) :
  ∃ dm,dA dm (w0.alloc (.cells vs e)) (.sl sz rows) (.slice (some ⟨w.heap.size,0,none⟩) rows.length cap)/\Below w.heap.size w (w0.alloc (.cells vs e))/\(∀ b,b<w.heap.size->dm b=g.lim b):=by
 have hb:Below w.heap.size w (w0.alloc (.cells vs e)):=by
  refine ⟨NN,htp,V6,by simp [hw],λk hk=>?_⟩;rw [Below.heap_alloc _ _ _ (by rw [hw];exact hk),hw]
 let dm:Nat->Nat:=λb=>if b=w.heap.size then rows.length*sz else g.lim b
 have Ao:∀ b,b<w.heap.size->dm b=g.lim b:=λb hb=>by show (if _ then _ else _)=_;rw [zab (by omega)]
 have Kb:(w0.alloc (.cells vs e)).heap[w.heap.size]?=some (.cells vs e):=by rw [←hw];exact heap_alloc_new w0 _
 have NR:Mj g.lim w dm (w0.alloc (.cells vs e)):=⟨hb.size,λb jZ=>by rw [Ao b jZ];exact zar _,λb off jZ _=>hb.cell (p:=⟨b,off,none⟩) jZ⟩
 have Cq:∀ i,(w0.alloc (.cells vs e)).cell? ⟨w.heap.size,i,none⟩=vs[i]?:=λi=>cell_of_row _ _ i vs e (0,0) Kb
 have El:=j4 hr;refine ⟨dm,.sl sz rows _ 0 cap hc hr ?_ ?_,hb,Ao⟩
 ·intro k hk;have hkv:k<vs.size:=by omega
  have hu:vs[k]?=some vs[k]:=zbi hkv;have TU:k<rows.flatten.length:=by omega
  refine ⟨by show 0+k<(if _ then _ else _);rw [zaa rfl];omega,vs[k],by rw [zca,Cq];exact hu,(fg k _ _ (zaf TU) hu).2⟩
 ·intro i j row c u hi hj hu;rw [zca,Cq] at hu;exact ((fg _ c u (kX hr hi hj) hu).1).mono NR
theorem QQ {lim:Nat->Nat} {w:World} {sz:Nat} {rows:List (List D)} {v:Value} (h:dA lim w (.sl sz rows) v) :
  ∃ (A:Option Addr) (c:Nat) (vs:List Value),v=.slice A rows.length c/\vs.length=rows.length*sz/\(rows.length=0∨∃ b off,A=some ⟨b,off,none⟩)/\(A=none->rows.length=0/\c=0) /\
   (∀ b off,A=some ⟨b,off,none⟩->∀ (j:Nat) u,vs[j]?=some u->w.cell? ⟨b,off+j,none⟩=some u)/\(∀ row∈rows,row.length=sz) /\
   ∀ (j:Nat) u c,vs[j]?=some u->rows.flatten[j]?=some c->dA lim w c u/\u.oneCell'=true:=by
 cases h with
 | nil _ A=>exact ⟨A,0,[],rfl,by simp,.inl rfl,λ_=>⟨rfl,rfl⟩,by simp,by simp,by simp⟩
 | sl _ _ b off cap hc hr hx h =>
  have El:=j4 hr;refine ⟨some ⟨b,off,none⟩,cap,(List.range (rows.length*sz)).map λj=>(w.cell? ⟨b,off+j,none⟩).getD undef,rfl,by simp,.inr ⟨b,off,rfl⟩,(λh=>by cases h),?_,hr,?_⟩
  ·intro b' QR he j u hu;cases he;rw [zbe] at hu;by_cases hj:j<rows.length*sz
   ·obtain ⟨_,u',vC,h1⟩:=hx j hj;simp [List.getElem?_range hj,vC] at hu;subst hu;exact vC
   ·simp [zbp (show (List.range (rows.length*sz)).length<=j by simp;omega)] at hu
  ·intro j u c hu sF;have hj:j<rows.length*sz:=by have:=(zad.1 sF).1;omega
   rw [zbe] at hu;obtain ⟨_,u',vC,h1⟩:=hx j hj;simp [List.getElem?_range hj,vC] at hu;subst hu;refine ⟨?_,h1⟩;have fT:0<sz:=by
    rcases zev sz with h0|h0
    ·subst h0;omega
    ·exact h0
   have Mz:j=(j / sz)*sz+j % sz:=by rw [zdp];exact (zew j sz).symm
   have hi:j / sz<rows.length:=zdw (by rw [zdp];exact hj);have hm:j % sz<rows[j / sz].length:=by rw [hr _ (zfg hi)];exact zem _ fT
   have hg:=kX hr (zaf hi) (zaf hm);rw [←Mz,sF] at hg;cases hg;refine h (j / sz) (j % sz) _ _ u' (zaf hi) (zaf hm) ?_;rw [←Mz];exact vC
theorem Wb {lim:Nat->Nat} {w:World} {sz:Nat} {rows:List (List D)} {A:Option Addr} {c l h:Nat} (hd:dA lim w (.sl sz rows) (.slice A rows.length c)) (hlh:l<=h) (hh:h<=rows.length) (hc:rows.length<=c) :
  dA lim w (.sl sz ((rows.take h).drop l)) (sliced A l h c sz):=by
 unfold sliced;have hlen:((rows.take h).drop l).length=h-l:=by simp;omega
 cases hd with
 | nil =>
  have:h=0:=by simpa using hh
  subst this;have:l=0:=by omega
  subst this;simpa using dA.nil sz _
 | sl _ _ b off cap sF hr hx fg =>
  have key:∀ QR,(QR=off+l*sz∨h-l=0)->dA lim w (.sl sz ((rows.take h).drop l)) (.slice (some ⟨b,QR,none⟩) (h-l) (c-l)):=by
   intro QR ho;rw [←hlen];refine .sl sz _ b QR (c-l) (by rw [hlen];omega) (λrow hm=>hr row (zen (zdh hm))) ?_ ?_
   ·intro k hk;rw [hlen] at hk;rcases ho with rfl|h0
    ·have hb:l*sz+k<rows.length*sz:=by
      have h1:(l+(h-l))*sz<=rows.length*sz:=zcz sz (by omega);rw [zdi] at h1;omega
     have:=hx (l*sz+k) hb;rw [zcp];exact this
    ·rw [h0,zfz] at hk;omega
   ·intro i j row cc u hi hj hu;rcases ho with rfl|h0
    ·rw [zbd,zal] at hi;split at hi
     ·refine fg (l+i) j row cc u hi hj ?_;rw [←hu];congr 2;rw [zdi];omega
     ·cases hi
    ·have:=(zad.1 hi).1;omega
  split
  ·rename_i sE;exact key off (.inr (by omega))
  ·simp only [Option.map_some,Addr.add_lit];exact key _ (.inl rfl)
end g
def wC:EV->Option (Nat×List (List D))
 | .d (.sl sz rows)=>some (sz,rows)
 | .d (.e0 sz)=>some (sz,[])
 | .cY sz rows _=>some (sz,rows)
 | _=>none
theorem tH {g:b7} {w:World} {st:St} {e:EV} {sz:Nat} {rows:List (List D)} {v:Value} (h:wC e=some (sz,rows)) (hv:bK g w st e v):dA g.lim w (.sl sz rows) v:=by
 unfold wC at h;split at h
 ·cases h;cases hv with|d _ _ h=>exact h
 ·cases h;cases hv with|d _ _ h=>exact D.QJ h
 ·cases h;cases hv with|cY _ _ _ _ _ _ h=>exact h
 ·cases h
section q
variable {P:Program} {base:Nat} {env:Env} {st:St} {d:Option Tmp} {ty:TypeId} {pos:String} {after:Array Edge} {gd:Option (Nat×Bool)} {t t2 e:TypeId} {x y z:Operand}
theorem uN (ht:P.underlying t=some (.slice e)):P.elem t=e:=by simp [Program.elem,ht]
theorem pX {inf:TypeInfo} {e:TypeId} (hi:P.info? e=some inf) (w:World):(sizeOf e).run P w=.ok inf.size w:=by simp [sizeOf,typeInfo,hi]
section sl
variable {sz:Nat} {rows:List (List D)} {ev:EV} {inf:TypeInfo} (ht:P.underlying t=some (.slice e)) (hi:P.info? e=some inf) (fT:inf.size=sz) (hx:cX env x=some ev) (hs:wC ev=some (sz,rows))
include ht hi fT hx hs
theorem QS {g:b7} {w:World} {tmps:Array Value} (he:dV g w st env tmps) {l h:Nat} (hlh:l<=h) (hh:h<=rows.length) {lo hi':Option Operand}
  (hb:∀ (A:Option Addr) (c:Nat),rows.length<=c->∀ w':World,(Instr.slice t (.slice A rows.length c) (lo.map (Act.eval ⟨tmps,[]⟩)) (hi'.map (Act.eval ⟨tmps,[]⟩)) none).run P w'=.ok (sliced A l h c sz) w') :
  ∃ v,bK g w st (.d (.sl sz ((rows.take h).drop l))) v/\∀ w',Below w.heap.size w w'->(execOp (Act.eval ⟨tmps,[]⟩) ⟨d,.slice t x lo hi' none,ty,pos,after,gd⟩).run P w'=.ok (.value v) w':=by
 have hd:=tH hs (aP he hx);obtain ⟨A,c,hv⟩:=Ek hd;rw [hv] at hd;have hc:rows.length<=c:=by
  cases hd with
  | nil=>exact zar _
  | sl _ _ _ _ _ hc=>exact hc
 refine ⟨_,.d _ _ (Wb hd hlh hh hc),λw' _=>?_⟩;simp only [execOp,hv,Sem.run_bind,run_sliceAt_slice w' t _ _ _ _ (by rw [uN ht];exact ht),Option.map_none,hb A c hc w',Result.andThen_ok,Sem.run_pure]
theorem Zo {kh:IntKind} {h:Int} (hz:cX env z=some (.d (.ex (.int kh h)))) (h0:0<=h) (h2:h<=rows.length) :
  aL P env st ⟨d,.slice t x none (some z) none,ty,pos,after,gd⟩ (.d (.sl sz (rows.take h.toNat))):=λg base w tmps hinv he=>by
 have:=QS (d:=d) (ty:=ty) (pos:=pos) (after:=after) (gd:=gd) ht hi fT hx hs he (l:=0) (h:=h.toNat) (lo:=none) (hi':=some z) (by omega) (by omega) λA c hc w'=>by
  simp only [Option.map_some,Option.map_none,(aP he hz).bN];rw [run_slice_h w' t A rows.length c (by rw [uN ht];exact ht) kh h h0 (by omega)];simp [uN ht,pX hi,fT]
 simpa using this
theorem Zp {kl:IntKind} {l:Int} (hy:cX env y=some (.d (.ex (.int kl l)))) (h0:0<=l) (h1:l<=rows.length) :
  aL P env st ⟨d,.slice t x (some y) none none,ty,pos,after,gd⟩ (.d (.sl sz (rows.drop l.toNat))):=λg base w tmps hinv he=>by
 have:=QS (d:=d) (ty:=ty) (pos:=pos) (after:=after) (gd:=gd) ht hi fT hx hs he (l:=l.toNat) (h:=rows.length) (lo:=some y) (hi':=none) (by omega) (by omega) λA c hc w'=>by
  simp only [Option.map_some,Option.map_none,(aP he hy).bN];rw [run_slice_l w' t A rows.length c (by rw [uN ht];exact ht) kl l h0 (by omega)];simp [uN ht,pX hi,fT]
 simpa using this
end sl
section str
variable {a:List UInt8} (ht:P.underlying t=some .string) (hx:cX env x=some (.d (.ex (.string ⟨a.toArray⟩))))
include ht hx
theorem TV {kl kh:IntKind} {l h:Int} (hy:cX env y=some (.d (.ex (.int kl l)))) (hz:cX env z=some (.d (.ex (.int kh h)))) (h0:0<=l) (h1:l<=h) (h2:h<=a.length) :
  aL P env st ⟨d,.slice t x (some y) (some z) none,ty,pos,after,gd⟩ (.d (.ex (.string ⟨((a.drop l.toNat).take (h.toNat-l.toNat)).toArray⟩))):=qQ λg w tmps w' he=>by
 have e1:(h.toNat:Int)=h:=Int.toNat_of_nonneg (by omega);have Hn:=run_sliceBound (P:=P) w' kl l h.toNat .sliceB h0 (by omega);have Ho:=run_sliceBound (P:=P) w' kh h a.length .sliceAlen (by omega) h2;simp [execOp,(aP he hx).bN,(aP he hy).bN,(aP he hz).bN,Instr.sliceAt,Instr.slice,run_underlying ht,Instr.sliceBounds,ByteArray.size_mk',Hn,Ho,ByteArray.extract_mk]
end str
structure Src (P:Program) (w:World) (sz:Nat) (u:Value) (m:Nat) (news:List Value):Prop where
 len:Builtin.lenOf u=pure m
 cells:∀ w':World,w'.heap=w.heap->(Builtin.firstCells sz m u).run P w'=.ok news.toArray w'
 size:news.length=m*sz
 one:∀ v∈news,v.oneCell'=true
theorem lU (w:World) {base ty sz:Nat} {inf:TypeInfo} {zv:Value} {d2:TypeDesc} (ht:P.underlying t=some (.slice e)) (Cr:P.underlying t2=some d2) (GD:d2=.string∨∃ e2,d2=.slice e2) (hi:P.info? e=some inf) (hz:inf.zero=some zv)
  (fw:inf.size=sz) (rZ:zv.cells.size=sz) {v:Value} {n:Nat} {xs:List Value} (kM:w.ownsRow base e sz v n xs) {u:Value} {m:Nat} {news:List Value} (hs:Src P w sz u m news)
  (NT:n+m<=maxLen) (QT:(n+m)*inf.bytes<=140737488355328) (kW:base<=w.heap.size) :
  ∃ v' w',(Builtin.append_ #[t,t2] ty #[v,u]).run P w=.ok v' w'/\w'.ownsRow base e sz v' (n+m) (xs++news)/\(m=0->v'=v) /\
   ((v'.ownBlock=v.ownBlock/\w'.heap.size=w.heap.size/\w.grownBy w' v.ownBlock)∨(v'.ownBlock=some w.heap.size/\Below w.heap.size w w')):=by
 rcases GD with rfl|⟨e2,rfl⟩
 all_goals
  subst fw;have hsmall:n+m<=9223372036854775807:=by simp only [maxLen] at NT;omega
  have hlen:(xs++news).length=(n+m)*inf.size:=by rw [zak,kM.1,hs.size,zdi]
  have hl:=hs.len;have grown:∀ (old:Nat),old<n+m ->
    (w.drew.alloc (.cells (xs.toArray++news.toArray++Builtin.zeroCells zv.cells (grownCap w (n+m) old e-(n+m))) e)).ownsRow base e inf.size
     (.slice (some ⟨w.heap.size,0,none⟩) (n+m) (grownCap w (n+m) old e)) (n+m) (xs++news) /\
    Below w.heap.size w (w.drew.alloc (.cells (xs.toArray++news.toArray++Builtin.zeroCells zv.cells (grownCap w (n+m) old e-(n+m))) e)):=by
   intro old ho;have hge:=grownCap_ge w (n+m) old e;have zu:grownCap w (n+m) old e<=maxLen:=grownCap_le_maxLen w (n+m) old e NT;refine ⟨⟨hlen,.inr ⟨w.heap.size,_,_,rfl,kW,heap_alloc_new w.drew _,hge,zu,?_,?_⟩⟩,((Below.refl _ w).drew).alloc (zar _) _⟩
   ·simp only [zfq,zbz,size_zeroCells,rZ,kM.1,hs.size,←zdi];congr 1;omega
   ·simp only [zgg,zat];rw [←zat,←hlen];exact zfm
  rcases kM.2 with ⟨rfl,rfl⟩|⟨g,cap,cur,rfl,hbg,hg,DS,zu,yU,NU⟩
  ·have hx:xs=[]:=zbc (by simpa using kM.1);subst hx;by_cases hm:m=0
   ·subst hm;have hn:news=[]:=zbc (by simpa using hs.size);subst hn;refine ⟨.slice none 0 0,w,?_,World.ownsRow_nil w base e inf.size,λ_=>rfl,.inl ⟨rfl,rfl,⟨rfl,rfl,rfl,zar _,λ_ _ _=>rfl⟩⟩⟩;have hf:=hs.cells w rfl;simp [Builtin.append_,run_underlying ht,run_underlying Cr,sizeOf,typeInfo,hi,hl,hf]
   ·have Wc:=grown 0 (by omega);refine ⟨_,_,?_,Wc.1,λh0=>by omega,.inr ⟨rfl,Wc.2⟩⟩;have hf:=hs.cells w.drew rfl;have TW:¬ m=0:=hm;have QU:¬ (9223372036854775807<(m:Int)):=by omega
    have QV:¬ (281474976710656<Builtin.nextslicecap m 0*inf.bytes):=by
     have jZ:=QT;rw [zca] at jZ;have:=growslice_fits (need:=m) (old:=0) (by omega) jZ;omega
    simp [Builtin.append_,run_underlying ht,run_underlying Cr,sizeOf,typeInfo,zeroValue,hi,hz,hl,TW,QU,QV,Question.forced,run_firstCells_none,hf,newRow,grownCap]
  ·by_cases uO:n+m<=cap
   ·have Ba:n*inf.size+news.length<=cur.size:=by rw [hs.size,yU,←zdi];exact zcz _ uO
    have mA:=run_storeCells_at P g (n*inf.size) e news 0 cur w hg (by simpa using Ba) hs.one;simp only [zdn] at mA;have hf:=hs.cells w rfl;refine ⟨.slice (some ⟨g,0,none⟩) (n+m) cap,w.setRow g (cur.toList.take (n*inf.size)++news++cur.toList.drop (n*inf.size+news.length)).toArray,?_,⟨hlen,.inr ⟨g,cap,_,rfl,hbg,setRow_heap w g cur _ e _ hg,uO,zu,?_,?_⟩⟩,λh0=>by subst h0;rfl,.inl ⟨rfl,by simp,⟨rfl,rfl,rfl,by simp,λk _ hk=>setRow_other w g k _ (λe=>hk (by simp [Value.ownBlock,e]))⟩⟩⟩
    ·simp [Builtin.append_,run_underlying ht,run_underlying Cr,sizeOf,typeInfo,hi,hl,uO,hf,Addr.add_lit,mA]
    ·simp only [zbz,zak,zba,zbg,zda];omega
    ·rw [NU,←hlen];exact zfm
   ·have holds:∀ j u,xs[j]?=some u->w.cell? ((⟨g,0,none⟩:Addr).add j)=some u:=kM.cells (g:=g) rfl;have Wc:=grown cap (by omega);refine ⟨_,_,?_,Wc.1,λh0=>by omega,.inr ⟨rfl,Wc.2⟩⟩;have hf:=hs.cells w.drew rfl;have hold:=run_firstCells_some (P:=P) w.drew inf.size n ⟨g,0,none⟩ n cap xs kM.1 (by simpa using holds);have QU:¬ (9223372036854775807<((n:Int)+(m:Int))):=by omega
    have QV:¬ (281474976710656<Builtin.nextslicecap (n+m) cap*inf.bytes):=by
     have:=growslice_fits (need:=n+m) (old:=cap) (by omega) QT;omega
    simp [Builtin.append_,run_underlying ht,run_underlying Cr,sizeOf,typeInfo,zeroValue,hi,hz,hl,uO,QU,QV,Question.forced,hold,hf,newRow,grownCap];rw [show (xs++news).toArray=xs.toArray++news.toArray from by simp,Array.append_assoc]
end q
theorem Iq {w:World} {lim:Nat->Nat} {base e sz n:Nat} {v:Value} {xs:List Value} {rows:List (List D)} (ho:w.ownsRow base e sz v n xs) (hn:rows.length=n) (hr:∀ row∈rows,row.length=sz)
  (hl:∀ b,v.ownBlock=some b->n*sz<=lim b) (hx:∀ (j:Nat) u c,xs[j]?=some u->rows.flatten[j]?=some c->dA lim w c u/\u.oneCell'=true):dA lim w (.sl sz rows) v:=by
 rcases ho.2 with ⟨rfl,rfl⟩|⟨g,cap,cur,rfl,hb,hg,DS,zu,yU,NU⟩
 ·have:rows=[]:=zbc hn;subst this;exact .nil sz _
 ·subst hn;have El:=j4 hr;have sI:=ho.cells (g:=g) rfl;refine .sl sz rows g 0 cap DS hr ?_ ?_
  ·intro k hk;have TX:k<xs.length:=by rw [ho.1];exact hk
   have h1:=sI k xs[k] (zaf TX);rw [Addr.add_lit] at h1;have TU:k<rows.flatten.length:=by rw [El];exact hk
   exact ⟨by have:=hl g rfl;omega,xs[k],h1,(hx k _ _ (zaf TX) (zaf TU)).2⟩
  ·intro i j row c u hi hj hu;have cJ:=Il (zad.1 hi).1 (show j<sz by rw [←hr row (zbj hi)];exact (zad.1 hj).1);have TX:i*sz+j<xs.length:=by rw [ho.1];exact cJ
   have h1:=sI _ xs[i*sz+j] (zaf TX);rw [Addr.add_lit,hu] at h1;cases h1;exact (hx _ _ _ (zaf TX) (kX hr hi hj)).1
structure Ar (P:Program) (lim:Nat->Nat) (w:World) (sz:Nat) (u:Value) (rs:List (List D)) (news:List Value):Prop where
 src:Src P w sz u rs.length news
 rows:∀ row∈rs,row.length=sz
 rep:∀ (j:Nat) v c,news[j]?=some v->rs.flatten[j]?=some c->dA lim w c v/\v.oneCell'=true
theorem vH {P:Program} {lim:Nat->Nat} {w:World} {sz:Nat} {u:Value} {rows:List (List D)} (h:dA lim w (.sl sz rows) u):∃ news,Ar P lim w sz u rows news:=by
 obtain ⟨A,c,vs,rfl,hl,hA,GF,fg,hr,mY⟩:=QQ h;have El:=j4 hr;refine ⟨vs,⟨rfl,λw' hw=>?_,hl,λv hv=>?_⟩,hr,mY⟩
 ·cases A with
  | none =>
   have:vs=[]:=zbc (by rw [hl,(GF rfl).1];simp);subst this;simp [Builtin.firstCells]
  | some ad =>
   rcases hA with h0|⟨b,off,Bb⟩
   ·have:vs=[]:=zbc (by rw [hl,h0];simp);subst this;simp [Builtin.firstCells,h0,loadCells,loadCellsFrom]
   ·cases Bb;refine run_firstCells_some w' sz rows.length _ _ c vs hl λj v hv=>?_
    rw [Addr.add_lit];have:=fg b off rfl j v hv;simpa [World.cell?,hw] using this
 ·obtain ⟨j,hj⟩:=zdg.1 hv;have JY:=(zad.1 hj).1;exact (mY j v _ hj (zaf (by omega))).2
section append
variable {P:Program} {g:b7} {base:Nat} {w:World} {st:St}
def iu.MA (x:iu):Nat:=if x.own=none then x.n*x.sz else 0
theorem tI {x:iu} (h:x.own=none):x.MA=x.n*x.sz:=by simp [iu.MA,h]
theorem Bc {x:iu} {p:List (List D)} (h:x.own=some p):x.MA=0:=by simp [iu.MA,h]
theorem Inv.Ke (h:Inv g base w st) {t:Nat} {x:iu} (hx:st.ar[t]?=some x) {b:Nat} (hb:(g.tk t).ownBlock=some b):g.lim b=x.MA:=by
 obtain ⟨e,sz,n,own⟩:=x;cases own with
 | none=>obtain ⟨xs,_,h2⟩:=h.tail t e sz n hx;exact h2 b hb
 | some rows=>obtain ⟨xs,_,h2,_⟩:=h.own t e sz n rows hx;exact h2 b hb
theorem Inv.Pm (h:Inv g base w st) {tk:Nat} {x x':iu} (fc:st.ar[tk]?=some x) {v':Value} {w':World} {Vf:List Value} (kI:w'.ownsRow base x'.e x'.sz v' x'.n Vf)
  (hc:(v'.ownBlock=(g.tk tk).ownBlock/\w'.heap.size=w.heap.size/\w.grownBy w' (g.tk tk).ownBlock)∨(v'.ownBlock=some w.heap.size/\Below w.heap.size w w'))
  (TY:x.own=none->x'.own=none/\x'.e=x.e/\x'.sz=x.sz/\x.n<=x'.n/\(x'.n=x.n->v'=g.tk tk)/\(∀ b,(g.tk tk).ownBlock=some b->v'.ownBlock=some b->∀ off,off<x.n*x.sz->w'.cell? ⟨b,off,none⟩=w.cell? ⟨b,off,none⟩))
  (hprv:∀ rows,x.own=some rows->∀ bO,x'.own=some bO->x'.sz=x.sz/\x.n<=x'.n/\(x.n=x'.n->v'=g.tk tk))
  (mY:∀ bO,x'.own=some bO->dn g.lim w x'.sz x'.n bO Vf) :
  ∃ g',g'.tk tk=v'/\(∀ b,v'.ownBlock=some b->g'.lim b=x'.MA)/\Inv g' base w' (st.bD tk x')/\Step base g w st g' w' (st.bD tk x'):=by
 have EW:∀ b,(g.tk tk).ownBlock=some b->g.lim b=x.MA:=λb hb=>h.Ke fc hb
 have cJ:∀ b,(g.tk tk).ownBlock=some b->base<=b/\b<w.heap.size:=λb hb=>h.wz fc hb
 have hlen:tk<st.ar.length:=(zad.1 fc).1;have fw:w.heap.size<=w'.heap.size:=by rcases hc with ⟨_,h1,_⟩|⟨_,h1⟩;omega;exact h1.size
 have NN:w'.os=w.os/\w'.tape=w.tape/\w'.output=w.output:=by rcases hc with ⟨_,_,h1⟩|⟨_,h1⟩ <;> exact ⟨h1.os,h1.tape,h1.output⟩
 have mZ:∀ k,k<w.heap.size->(g.tk tk).ownBlock≠some k->w'.heap[k]?=w.heap[k]?:=by
  intro k hk fi;rcases hc with ⟨_,_,h1⟩|⟨_,h1⟩
  ·exact h1.block k hk (zcn fi)
  ·exact h1.block k hk
 have tE:∀ k,k<w.heap.size->(g.tk tk).ownBlock≠some k->v'.ownBlock≠some k:=by
  intro k hk fi;rcases hc with ⟨h1,_,_⟩|⟨h1,_⟩ <;> rw [h1]
  ·exact fi
  ·intro he;cases he;omega
 let g':b7:=⟨λb=>if v'.ownBlock=some b then x'.MA else g.lim b,g.ob,λt=>if t=tk then v' else g.tk t⟩
 have ya:∀ b,v'.ownBlock=some b->g'.lim b=x'.MA:=λb hb=>by show (if _ then _ else _)=_;rw [zaa hb]
 have mN:∀ b,v'.ownBlock≠some b->g'.lim b=g.lim b:=λb hb=>by show (if _ then _ else _)=_;rw [zab hb]
 have zw:g'.tk tk=v':=by show (if tk=tk then v' else _)=_;rw [zaa rfl]
 have wD:∀ t,t≠tk->g'.tk t=g.tk t:=λt ht=>by show (if t=tk then v' else _)=_;rw [zab ht]
 have Bd:∀ k,k<base->(g.tk tk).ownBlock≠some k:=λk hk he=>by have:=(cJ k he).1;omega
 have n9:Below base w w':=⟨NN.1,NN.2.1,NN.2.2,fw,λk hk=>mZ k (zbm hk h.base) (Bd k hk)⟩;have Zq:x.own=none->x.MA<=x'.MA:=by
  intro hx;obtain ⟨h1,_,h3,h4,_⟩:=TY hx;rw [tI hx,tI h1,h3];exact zcz _ h4
 have hzero:x.own≠none->x.MA=0:=λhx=>by cases ho:x.own with|none=>exact absurd ho hx|some p=>exact Bc ho
 have Be:Mj g.lim w g'.lim w':=by
  refine ⟨fw,λb hb=>?_,λb off hb ho=>?_⟩
  ·by_cases he:v'.ownBlock=some b
   ·rw [ya b he];have jZ:(g.tk tk).ownBlock=some b:=by
     rcases hc with ⟨h1,_,_⟩|⟨h1,_⟩
     ·rw [←h1];exact he
     ·rw [h1] at he;cases he;omega
    rw [EW b jZ];by_cases hx:x.own=none
    ·exact Zq hx
    ·rw [hzero hx];exact zfs _
   ·rw [mN b he];exact zar _
  ·by_cases he:(g.tk tk).ownBlock=some b
   ·rcases hc with ⟨h1,_,_⟩|⟨_,h1⟩
    ·rw [EW b he] at ho;by_cases hx:x.own=none
     ·rw [tI hx] at ho;exact (TY hx).2.2.2.2.2 b he (h1.trans he) off ho
     ·rw [hzero hx] at ho;omega
    ·exact h1.cell (p:=⟨b,off,none⟩) hb
   ·exact World.cell?_of_block (w:=w) (a:=⟨b,off,none⟩) (mZ b hb he)
 have wE:∀ t y,t≠tk->(st.bD tk x').ar[t]?=some y->st.ar[t]?=some y:=λt y ht hy=>by simpa [St.bD,zbl,zcn ht] using hy
 have Ir:∀ y,(st.bD tk x').ar[tk]?=some y->y=x':=λy hy=>by
  have:x'=y:=by simpa [St.bD,zbl,hlen] using hy
  exact this.symm
 have hs:u9 g w st g' w' (st.bD tk x'):=by
  refine ⟨Be,λ_ _=>rfl,zar _,λt e' J0 n' ht=>?_,by simp [St.bD],λt y bO j0 hy ho=>?_⟩
  ·by_cases xq:t=tk
   ·subst xq;rw [fc] at ht;cases ht;obtain ⟨h1,h2,h3,h4,h5,_⟩:=TY rfl;obtain ⟨e1,s1,n1,o1⟩:=x';simp only at h1 h2 h3 h4 h5;subst h1;subst h2;subst h3;exact ⟨n1,by simp [St.bD,zbl,hlen],h4,λhe=>by rw [zw];exact h5 he⟩
   ·exact ⟨n',by simp [St.bD,zbl,zcn xq,ht],zar _,λ_=>wD t xq⟩
  ·by_cases xq:t=tk
   ·subst xq;have:=Ir y hy;subst this;cases hx:x.own with
    | none=>rw [(TY hx).1] at ho;cases ho
    | some rows =>
     obtain ⟨h1,h2,h3⟩:=hprv rows hx bO ho;exact ⟨x,rows,fc,hx,h1.symm,h2,λe=>by rw [zw];exact h3 e⟩
   ·exact ⟨y,bO,wE t y xq hy,ho,rfl,zar _,λ_=>wD t xq⟩
 have Bf:∀ o,st.live o->g.ob o<w.heap.size/\(g.tk tk).ownBlock≠some (g.ob o):=λo ho=>⟨(h.wB ho).1,h.iT tk _ o fc ho⟩
 have TA:∀ o y,st.aQ[o]?=some (.raw y)->base<=g'.ob o/\g'.lim (g'.ob o)=0/\w'.heap[g'.ob o]?=some y:=by
  intro o y hx;obtain ⟨h1,h2,h3⟩:=h.raw o y hx;obtain ⟨k1,k2⟩:=Bf o ⟨_,hx,by simp⟩;exact ⟨h1,(mN _ (tE _ k1 k2)).trans h2,by show w'.heap[g.ob o]?=_;rw [mZ _ k1 k2];exact h3⟩
 have iD:∀ t y,t≠tk->(st.bD tk x').ar[t]?=some y->∀ b,(g.tk t).ownBlock=some b->b<w.heap.size/\(g.tk tk).ownBlock≠some b/\v'.ownBlock≠some b:=λt y xq hy b hb=>by
  have h1:=(h.wz (wE t y xq hy) hb).2;have h2:=h.oH t tk _ _ b xq (wE t _ xq hy) fc hb;exact ⟨h1,h2,tE b h1 h2⟩
 refine ⟨g',zw,ya,⟨zdo h.base fw,?_,?_,TA,h.ne,?_,?_,?_,h.DO.below n9,?_⟩,⟨hs,n9,λb hb=>mN b (tE b (zbm hb h.base) (Bd b hb)),λb hb hn=>?_,λb hb hw=>?_⟩⟩
 ·intro o ty cs hx;obtain ⟨h1,h2,vs,h3,h4,h5⟩:=h.row o ty cs hx;obtain ⟨k1,k2⟩:=Bf o ⟨_,hx,by simp⟩;exact ⟨h1,(mN _ (tE _ k1 k2)).trans h2,vs,by show w'.heap[g.ob o]?=_;rw [mZ _ k1 k2];exact h3,h4,λi c u hc hu=>⟨(h5 i c u hc hu).1.mono hs,(h5 i c u hc hu).2⟩⟩
 ·intro o es hx;obtain ⟨h1,ms,c,h3,h4,h5,h6⟩:=h.map o es hx;obtain ⟨k1,k2⟩:=Bf o ⟨_,hx,by simp⟩;exact ⟨h1,ms,c,by show w'.heap[g.ob o]?=_;rw [mZ _ k1 k2];exact h3,h4,λi k y m a b=>⟨(h5 i k y m a b).1,(h5 i k y m a b).2.mono hs⟩,h6⟩
 ·intro t e' J0 n' ht;by_cases xq:t=tk
  ·subst xq;have:=Ir _ ht;subst this;rw [zw];exact ⟨_,kI,λb hb=>(ya b hb).trans (tI rfl)⟩
  ·obtain ⟨ys,k1,k2⟩:=h.tail t e' J0 n' (wE t _ xq ht);rw [wD t xq];exact ⟨ys,fv k1 λb hb=>mZ b (iD t _ xq ht b hb).1 (iD t _ xq ht b hb).2.1,λb hb=>by rw [mN b (iD t _ xq ht b hb).2.2];exact k2 b hb⟩
 ·intro t t' y y' b fi ht tJ hb;by_cases h1:t=tk
  ·subst h1;rw [zw] at hb;rw [wD t' (zcn fi)];intro jZ;exact (iD t' _ (zcn fi) tJ b jZ).2.2 hb
  ·rw [wD t h1] at hb;by_cases h2:t'=tk
   ·subst h2;rw [zw];exact (iD t _ h1 ht b hb).2.2
   ·rw [wD t' h2];exact h.oH t t' _ _ b fi (wE t _ h1 ht) (wE t' _ h2 tJ) hb
 ·intro t y o ht ho;obtain ⟨k1,k2⟩:=Bf o ho;by_cases h1:t=tk
  ·subst h1;rw [zw];exact tE _ k1 k2
  ·rw [wD t h1];exact h.iT t y o (wE t _ h1 ht) ho
 ·intro t e' J0 n' bO ht;by_cases xq:t=tk
  ·subst xq;have:=Ir _ ht;subst this;rw [zw];exact ⟨_,kI,λb hb=>(ya b hb).trans (Bc rfl),(mY bO rfl).mono Be⟩
  ·obtain ⟨ys,k1,k2,k3⟩:=h.own t e' J0 n' bO (wE t _ xq ht);rw [wD t xq];exact ⟨ys,fv k1 λb hb=>mZ b (iD t _ xq ht b hb).1 (iD t _ xq ht b hb).2.1,λb hb=>by rw [mN b (iD t _ xq ht b hb).2.2];exact k2 b hb,k3.mono Be⟩
 ·have fi:(g.tk tk).ownBlock≠some b:=λe=>hn (.inr ⟨tk,x,fc,e⟩)
  exact ⟨mZ b hb fi,mN b (tE b hb fi)⟩
 ·rcases hw with ⟨o,h1,h2⟩|⟨t,y,h1,h2⟩
  ·exact .inl ⟨o,h1,h2⟩
  ·by_cases xq:t=tk
   ·subst xq;rw [zw] at h2;rcases hc with ⟨c1,_,_⟩|⟨c1,_⟩
    ·exact .inr ⟨t,x,fc,by rw [←c1];exact h2⟩
    ·rw [c1] at h2;cases h2;omega
   ·rw [wD t xq] at h2;exact .inr ⟨t,y,wE t y xq h1,h2⟩
theorem Inv.append (h:Inv g base w st) {tk e sz n m:Nat} (fc:st.ar[tk]?=some ⟨e,sz,n,none⟩) {v':Value} {w':World} {xs news:List Value} (kM:w.ownsRow base e sz (g.tk tk) n xs) (kI:w'.ownsRow base e sz v' (n+m) (xs++news))
  (TW:m=0->v'=g.tk tk)
  (hc:(v'.ownBlock=(g.tk tk).ownBlock/\w'.heap.size=w.heap.size/\w.grownBy w' (g.tk tk).ownBlock)∨(v'.ownBlock=some w.heap.size/\Below w.heap.size w w')) :
  ∃ g',g'.tk tk=v'/\(∀ b,v'.ownBlock=some b->g'.lim b=(n+m)*sz)/\Inv g' base w' (st.bD tk ⟨e,sz,n+m,none⟩)/\Step base g w st g' w' (st.bD tk ⟨e,sz,n+m,none⟩):=by
 obtain ⟨g',h1,h2,h3,h4⟩:=h.Pm (x':=⟨e,sz,n+m,none⟩) fc kI hc
  (λ_=>⟨rfl,rfl,rfl,Nat.le_add_right _ _,λhe=>TW (by simp only at he;omega),λb he hv off ho=>by
   have hox:off<xs.length:=by rw [kM.1];exact ho
   have c1:=kM.cells he off xs[off] (zaf hox);have c2:=kI.cells hv off xs[off] (by rw [zao hox];exact zaf hox);rw [Addr.add_lit,zca] at c1 c2;rw [c1,c2]⟩)
  (λrows hh=>by cases hh) (λrows hh=>by cases hh)
 exact ⟨g',h1,λb hb=>(h2 b hb).trans (tI rfl),h3,h4⟩
theorem Inv.s8 (h:Inv g base w st) (x:iu) {v:Value} {w':World} {xs:List Value} (kM:w'.ownsRow base x.e x.sz v x.n xs)
  (hc:(w'=w/\v.ownBlock=none)∨(v.ownBlock=some w.heap.size/\Below w.heap.size w w'))
  (mY:∀ rows,x.own=some rows->dn g.lim w x.sz x.n rows xs) :
  ∃ g',g'.tk st.ar.length=v/\(∀ b,v.ownBlock=some b->g'.lim b=x.MA)/\(∀ b,b<w.heap.size->g'.lim b=g.lim b)/\Inv g' base w' (st.tok x)/\Step base g w st g' w' (st.tok x):=by
 have n9:Below w.heap.size w w':=by
  rcases hc with ⟨rfl,_⟩|⟨_,h1⟩
  ·exact .refl _ _
  ·exact h1
 have YP:∀ b,v.ownBlock=some b->b=w.heap.size:=by
  intro b hb;rcases hc with ⟨_,h1⟩|⟨h1,_⟩
  ·rw [h1] at hb;cases hb
  ·rw [h1] at hb;cases hb;rfl
 let g':b7:=⟨λb=>if v.ownBlock=some b then x.MA else g.lim b,g.ob,λt=>if t=st.ar.length then v else g.tk t⟩
 have ya:∀ b,v.ownBlock=some b->g'.lim b=x.MA:=λb hb=>by show (if _ then _ else _)=_;rw [zaa hb]
 have mN:∀ b,b<w.heap.size->g'.lim b=g.lim b:=λb hb=>by
  show (if _ then _ else _)=_;rw [zab];intro e;have:=YP b e;omega
 have h1:g'.tk st.ar.length=v:=by show (if _ then _ else _)=_;rw [zaa rfl]
 have h2:∀ t,t≠st.ar.length->g'.tk t=g.tk t:=λt ht=>by show (if _ then _ else _)=_;rw [zab ht]
 have hold:∀ t y,(st.tok x).ar[t]?=some y->(t<st.ar.length/\st.ar[t]?=some y)∨(t=st.ar.length/\y=x):=by
  intro t y hx;have cJ:=(zad.1 hx).1;simp [St.tok] at cJ;by_cases ht:t<st.ar.length
  ·exact .inl ⟨ht,by simpa [St.tok,zao ht] using hx⟩
  ·have:t=st.ar.length:=by omega
   subst this;exact .inr ⟨rfl,by simpa [St.tok,zfc] using hx⟩
 have Be:Mj g.lim w g'.lim w':=⟨n9.size,λb hb=>by rw [mN b hb];exact zar _,λb off hb _=>n9.cell (p:=⟨b,off,none⟩) hb⟩
 have hs:u9 g w st g' w' (st.tok x):=⟨Be,λ_ _=>rfl,zar _,λt e' J0 n ht=>by
  have cJ:=(zad.1 ht).1;exact ⟨n,by simp [St.tok,zao cJ,ht],zar _,λ_=>h2 t (by omega)⟩,by simp [St.tok],vD λt y bO cJ hy _=>⟨by
   rcases hold t y hy with ⟨_,hh⟩|⟨hh,_⟩
   ·exact hh
   ·omega,h2 t (by omega)⟩⟩
 have fi:∀ t y b,st.ar[t]?=some y->(g.tk t).ownBlock=some b->v.ownBlock≠some b:=λt y b hy hb hv=>by
  have:=(h.wz hy hb).2;have:=YP b hv;omega
 refine ⟨g',h1,ya,mN,⟨zdo h.base n9.size,λo ty cs hx=>?_,λo es hx=>?_,λo y hx=>?_,h.ne,?_,?_,?_,h.DO.below (n9.mono h.base),?_⟩,⟨hs,n9.mono h.base,λb hb=>mN b (zbm hb h.base),λb hb _=>⟨n9.block b hb,mN b hb⟩,λb hb hw=>?_⟩⟩
 ·obtain ⟨k1,k2,vs,k3,k4,k5⟩:=h.row o ty cs hx;have cJ:=(zau.1 k3).1;exact ⟨k1,(mN _ cJ).trans k2,vs,(n9.block _ cJ).trans k3,k4,λi c u hc hu=>⟨(k5 i c u hc hu).1.mono hs,(k5 i c u hc hu).2⟩⟩
 ·obtain ⟨k1,ms,c,k3,k4,k5,k6⟩:=h.map o es hx;have cJ:=(zau.1 k3).1;exact ⟨k1,ms,c,(n9.block _ cJ).trans k3,k4,λi k y m a b=>⟨(k5 i k y m a b).1,(k5 i k y m a b).2.mono hs⟩,k6⟩
 ·obtain ⟨k1,k2,k3⟩:=h.raw o y hx;have cJ:=(zau.1 k3).1;exact ⟨k1,(mN _ cJ).trans k2,(n9.block _ cJ).trans k3⟩
 ·intro t e' J0 n ht;rcases hold t _ ht with ⟨cJ,tJ⟩|⟨rfl,he⟩
  ·rw [h2 t (by omega)];obtain ⟨ys,k1,k2⟩:=h.tail t e' J0 n tJ;exact ⟨ys,fv k1 λb hb=>n9.block b (k1.lt b hb).2,λb hb=>(mN b (k1.lt b hb).2).trans (k2 b hb)⟩
  ·subst he;rw [h1];exact ⟨xs,kM,λb hb=>(ya b hb).trans (tI rfl)⟩
 ·intro t t' y y' b pU ht tJ hb;rcases hold t _ ht with ⟨cJ,k⟩|⟨rfl,he⟩
  ·rw [h2 t (by omega)] at hb;rcases hold t' _ tJ with ⟨j0,k'⟩|⟨rfl,A1⟩
   ·rw [h2 t' (by omega)];exact h.oH t t' y y' b pU k k' hb
   ·rw [h1];exact fi t y b k hb
  ·rw [h1] at hb;rcases hold t' _ tJ with ⟨j0,k'⟩|⟨rfl,A1⟩
   ·rw [h2 t' (by omega)];intro jZ;exact fi t' y' b k' jZ hb
   ·exact absurd rfl pU
 ·intro t y o ht ho;rcases hold t _ ht with ⟨cJ,k⟩|⟨rfl,he⟩
  ·rw [h2 t (by omega)];exact h.iT t y o k ho
  ·rw [h1];intro e;have:=YP _ e;have:=(h.wB ho).1;have e2:g'.ob o=g.ob o:=rfl;omega
 ·intro t e' J0 n bO ht;rcases hold t _ ht with ⟨cJ,tJ⟩|⟨rfl,he⟩
  ·rw [h2 t (by omega)];obtain ⟨ys,k1,k2,k3⟩:=h.own t e' J0 n bO tJ;exact ⟨ys,fv k1 λb hb=>n9.block b (k1.lt b hb).2,λb hb=>(mN b (k1.lt b hb).2).trans (k2 b hb),k3.mono Be⟩
  ·subst he;rw [h1];exact ⟨xs,kM,λb hb=>(ya b hb).trans (Bc rfl),(mY bO rfl).mono Be⟩
 ·rcases hw with ⟨o,a1,a2⟩|⟨t,y,a1,a2⟩
  ·exact .inl ⟨o,a1,a2⟩
  ·rcases hold t _ a1 with ⟨cJ,k⟩|⟨rfl,he⟩
   ·rw [h2 t (by omega)] at a2;exact .inr ⟨t,y,k,a2⟩
   ·rw [h1] at a2;have:=YP b a2;omega
theorem Inv.Is (h:Inv g base w st) (e sz:Nat):∃ g',g'.tk st.ar.length=.slice none 0 0/\Inv g' base w (st.tok ⟨e,sz,0,none⟩)/\Step base g w st g' w (st.tok ⟨e,sz,0,none⟩):=by
 obtain ⟨g',h1,_,_,h2,h3⟩:=h.s8 ⟨e,sz,0,none⟩ (World.ownsRow_nil w base _ _) (.inl ⟨rfl,rfl⟩) (λrows hh=>by cases hh);exact ⟨g',h1,h2,h3⟩
end append
section rules
variable {P:Program} {f:Ctx} {N:Nat} {S:Start} {Q:EV->St->Prop} {k:List Item} {base:Nat} {env:Env} {st:St} {ops rest:List Oper}
 {d:Option Tmp} {ty:TypeId} {pos:String} {after:Array Edge} {gd:Option (Nat×Bool)} {t t2 e:TypeId} {x y:Operand}
theorem wF {w:World} {ty sz:Nat} {inf:TypeInfo} {z:Value} {d2:TypeDesc} (ht:P.underlying t=some (.slice e)) (Cr:P.underlying t2=some d2) (GD:d2=.string∨∃ e2,d2=.slice e2) (hi:P.info? e=some inf) (hz:inf.zero=some z) (fw:inf.size=sz)
  {u:Value} {m:Nat} {news:List Value} (hs:Src P w sz u m news) (NT:m<=4611686018427387904) (hn:m*inf.bytes<=140737488355328) (A:Option Addr) :
  (m=0->(Builtin.append_ #[t,t2] ty #[.slice A 0 0,u]).run P w=.ok (.slice A 0 0) w) /\
  (m≠0->(Builtin.append_ #[t,t2] ty #[.slice A 0 0,u]).run P w=(Builtin.append_ #[t,t2] ty #[.slice none 0 0,u]).run P w):=by
 have hl:=hs.len;have hzer:(match d2 with|.int _=>true|_=>false)=false:=by rcases GD with rfl|⟨e2,rfl⟩ <;> rfl
 subst fw;constructor
 ·intro hm;subst hm;have NV:news=[]:=zbc (by simpa using hs.size);subst NV;have hf:=hs.cells w rfl;rcases GD with rfl|⟨e2,rfl⟩ <;> cases A <;> simp [Builtin.append_,run_underlying ht,run_underlying Cr,sizeOf,typeInfo,hi,hl,hf,storeCells]
 ·intro hm;have uE:¬ (m<=0):=by omega
  have h1:∀ w',(Builtin.firstCells inf.size 0 (.slice A 0 0)).run P w'=.ok #[] w':=λw'=>by cases A <;> simp [Builtin.firstCells,loadCells,loadCellsFrom]
  have h2:∀ w',(Builtin.firstCells inf.size 0 (.slice none 0 0)).run P w'=.ok #[] w':=λw'=>by simp [Builtin.firstCells]
  have QU:¬ (9223372036854775807<(m:Int)):=by omega
  have QV:¬ (281474976710656<Builtin.nextslicecap m 0*inf.bytes):=by
   have:=growslice_fits (need:=m) (old:=0) (by omega) hn;omega
  rcases GD with rfl|⟨e2,rfl⟩ <;> simp [Builtin.append_,run_underlying ht,run_underlying Cr,sizeOf,typeInfo,hi,hl,hm,h1,h2,QU,QV,Question.forced]
theorem Kf {g:b7} {w:World} {v u z:Value} {sz tk:Nat} {rows bO:List (List D)} {inf:TypeInfo} {d2:TypeDesc} (ht:P.underlying t=some (.slice e)) (Cr:P.underlying t2=some d2) (GD:d2=.string∨∃ e2,d2=.slice e2)
  (hi:P.info? e=some inf) (hz:inf.zero=some z) (fw:inf.size=sz) (rZ:z.cells.size=sz) (hinv:Inv g base w st) (Bg:bK g w st (.cY sz rows tk) v) (fc:st.ar[tk]?=some ⟨e,sz,rows.length,none⟩) (Hp:v=g.tk tk)
  (hn:(rows.length+bO.length)*inf.bytes<=140737488355328) (NT:rows.length+bO.length<=4611686018427387904)
  {news:List Value} (xr:Ar P g.lim w sz u bO news) :
  ∃ v' g' w',(Builtin.append_ #[t,t2] ty #[v,u]).run P w=.ok v' w'/\bK g' w' (st.bD tk ⟨e,sz,(rows++bO).length,none⟩) (.cY sz (rows++bO) tk) v'/\Inv g' base w' (st.bD tk ⟨e,sz,(rows++bO).length,none⟩) /\
   Step base g w st g' w' (st.bD tk ⟨e,sz,(rows++bO).length,none⟩):=by
 rw [show (rows++bO).length=rows.length+bO.length from zak];cases Bg with
 | cY _ _ _ _ e0 n0 hd TZ NV MB =>
  rw [fc] at TZ;cases TZ;obtain ⟨xs,kM,Ao⟩:=hinv.tail tk e sz _ fc;obtain ⟨v',w',iE,kI,TW,hc⟩:=lU (P:=P) (ty:=ty) w ht Cr GD hi hz fw rZ kM xr.src (by simp only [maxLen];omega) hn hinv.base;obtain ⟨g',xG,QW,dY,pK⟩:=hinv.append fc kM kI TW hc;refine ⟨v',g',w',?_,?_,dY,pK⟩
  ·rw [Hp];exact iE
  ·have hlen:tk<st.ar.length:=(zad.1 fc).1;obtain ⟨A,c,vs,hvA,hvl,hA,GF,fg,TA,mY⟩:=QQ hd;refine .cY sz _ tk v' e (rows.length+bO.length) (Iq kI (by simp) ?_ (λb hb=>zga (QW b hb).symm) ?_) (by simp [St.bD,zbl,hlen]) (by simp) (λ_=>.inl xG.symm)
   ·intro row hr;rcases zbb.1 hr with h|h
    ·exact TA row h
    ·exact xr.rows row h
   ·intro j u c' hu sF;rw [zer] at sF;have El:=j4 TA;have wx:=kM.1;by_cases hj:j<xs.length
    ·rw [zao hj] at hu;rw [zao (by omega)] at sF;have hjv:j<vs.length:=by omega
     have TB:vs[j]?=some u:=by
      have e1:=zaf hjv;rcases hA with h0|⟨b,off,Bb⟩
      ·rw [h0] at wx;omega
      ·have c1:=fg b off Bb j _ e1;have A9:(g.tk tk).ownBlock=some b/\off=0:=by
        rcases kM.2 with ⟨h1,h2⟩|⟨gb,cap,cur,h1,_⟩
        ·rw [h2] at wx;omega
        ·rw [←Hp,hvA,Bb] at h1;cases h1;exact ⟨by rw [←Hp,hvA,Bb];rfl,rfl⟩
       have c2:=kM.cells A9.1 j u hu;rw [Addr.add_lit] at c2;rw [A9.2,c2] at c1;cases c1;exact e1
     exact ⟨(mY j u c' TB sF).1.mono pK.dB.cX,(mY j u c' TB sF).2⟩
    ·rw [zaw (by omega)] at hu;rw [zaw (by omega)] at sF;have e1:rows.flatten.length=xs.length:=by omega
     rw [e1] at sF;exact ⟨(xr.rep _ u c' hu sF).1.mono pK.dB.cX,(xr.rep _ u c' hu sF).2⟩
theorem EX {g:b7} {w:World} {v u z:Value} {sz tk:Nat} {rows bO:List (List D)} {inf:TypeInfo} {d2:TypeDesc} (ht:P.underlying t=some (.slice e)) (Cr:P.underlying t2=some d2) (GD:d2=.string∨∃ e2,d2=.slice e2)
  (hi:P.info? e=some inf) (hz:inf.zero=some z) (fw:inf.size=sz) (rZ:z.cells.size=sz) (hinv:Inv g base w st) (Bg:bK g w st (.cY sz rows tk) v) (fc:st.ar[tk]?=some ⟨e,sz,rows.length,none⟩)
  (hn:(rows.length+bO.length)*inf.bytes<=140737488355328) (NT:rows.length+bO.length<=4611686018427387904)
  {news:List Value} (xr:Ar P g.lim w sz u bO news) :
  ∃ v' g' w',(Builtin.append_ #[t,t2] ty #[v,u]).run P w=.ok v' w'/\bK g' w' (st.bD tk ⟨e,sz,(rows++bO).length,none⟩) (.cY sz (rows++bO) tk) v'/\Inv g' base w' (st.bD tk ⟨e,sz,(rows++bO).length,none⟩) /\
   Step base g w st g' w' (st.bD tk ⟨e,sz,(rows++bO).length,none⟩):=by
 by_cases Hp:v=g.tk tk
 ·exact Kf ht Cr GD hi hz fw rZ hinv Bg fc Hp hn NT xr
 cases Bg with
 | cY _ _ _ _ e0 n0 hd TZ NV MB =>
  rw [fc] at TZ;cases TZ;obtain ⟨h0,A,hA⟩:=(MB rfl).resolve_left Hp;have T0:rows=[]:=zbc h0;subst T0;simp only [zbh,zca] at hn NT;obtain ⟨q1,q2⟩:=wF (P:=P) (ty:=ty) ht Cr GD hi hz fw xr.src NT hn A;have htl':st.ar[tk]?=some ⟨e,sz,0,none⟩:=fc;have hlen:tk<st.ar.length:=(zad.1 htl').1;by_cases hm:bO.length=0
  ·have hr1:bO=[]:=zbc hm;subst hr1;have mZ:st.bD tk ⟨e,sz,0,none⟩=st:=by
    unfold St.bD;have:st.ar.set tk ⟨e,sz,0,none⟩=st.ar:=by
     apply zcm;intro i;rw [zbl];split
     ·rename_i hi';subst hi';rw [htl']
     ·rfl
    rw [this]
   simp only [zbn,zbh];rw [mZ];exact ⟨v,g,w,by rw [hA];exact q1 rfl,.cY sz [] tk v e 0 hd htl' (zar _) (λ_=>.inr ⟨rfl,A,hA⟩),hinv,.refl _ _ _ _⟩
  ·obtain ⟨xs,kM,_⟩:=hinv.tail tk e sz _ htl';have T1:xs=[]:=zbc (by rw [kM.1];simp);subst T1;obtain ⟨v',w',iE,kI,_,hc⟩:=lU (P:=P) (ty:=ty) w ht Cr GD hi hz fw rZ (World.ownsRow_nil w base e sz) xr.src (by simp only [maxLen];omega) (by simpa using hn) hinv.base;have sF:v'.ownBlock=some w.heap.size/\Below w.heap.size w w':=by
    rcases hc with ⟨h1,_⟩|h
    ·exfalso;rcases kI.2 with ⟨_,h2⟩|⟨gb,cap,cur,h2,_⟩
     ·exact hm (by omega)
     ·rw [h2] at h1;cases h1
    ·exact h
   obtain ⟨g',xG,QW,dY,pK⟩:=hinv.append (xs:=[]) htl' kM kI (λh=>absurd h hm) (.inr sF);have e1:([]++bO:List (List D)).length=0+bO.length:=by simp
   rw [e1];refine ⟨v',g',w',by rw [hA,q2 hm];exact iE,?_,dY,pK⟩;refine .cY sz _ tk v' e (0+bO.length) (Iq kI (by simp) (λrow hr=>xr.rows row (by simpa using hr)) (λb hb=>zga (QW b hb).symm) λj u c' hu sF=>?_) (by simp [St.bD,zbl,hlen]) (by simp) (λ_=>.inl xG.symm);rw [zcc] at hu sF;exact ⟨(xr.rep _ u c' hu sF).1.mono pK.dB.cX,(xr.rep _ u c' hu sF).2⟩
theorem Kg {sz tk:Nat} {rows bO:List (List D)} {inf:TypeInfo} {z:Value} {d2:TypeDesc} (ht:P.underlying t=some (.slice e)) (Cr:P.underlying t2=some d2) (GD:d2=.string∨∃ e2,d2=.slice e2)
  (hi:P.info? e=some inf) (hz:inf.zero=some z) (fw:inf.size=sz) (rZ:z.cells.size=sz) (hx:cX env x=some (.cY sz rows tk)) (fc:st.ar[tk]?=some ⟨e,sz,rows.length,none⟩)
  (hn:(rows.length+bO.length)*inf.bytes<=140737488355328) (NT:rows.length+bO.length<=4611686018427387904)
  (As:∀ (g:b7) (w:World) (tmps:Array Value),dV g w st env tmps->∃ news,Ar P g.lim w sz (Act.eval ⟨tmps,[]⟩ y) bO news) :
  xY P base env st ⟨d,.call ⟨.builtin .append,#[x,y],#[t,t2]⟩,ty,pos,after,gd⟩ (.cY sz (rows++bO) tk) (st.bD tk ⟨e,sz,(rows++bO).length,none⟩):=by
 intro g w tmps hinv he;obtain ⟨news,xr⟩:=As g w tmps he;obtain ⟨v',g',w',iE,h1,h2,h3⟩:=EX (ty:=ty) ht Cr GD hi hz fw rZ hinv (aP he hx) fc hn NT xr;exact ⟨v',g',w',by simp [execOp,resolve,invoke,builtin,iE],h1,h2,h3⟩
theorem QX {sz tk:Nat} {rows bO:List (List D)} {inf:TypeInfo} {z:Value} {ev:EV} (ht:P.underlying t=some (.slice e)) (hi:P.info? e=some inf) (hz:inf.zero=some z) (fw:inf.size=sz) (rZ:z.cells.size=sz)
  (hx:cX env x=some (.cY sz rows tk)) (fc:st.ar[tk]?=some ⟨e,sz,rows.length,none⟩) (hy:cX env y=some ev) (hs:wC ev=some (sz,bO))
  (hn:(rows.length+bO.length)*inf.bytes<=140737488355328) (NT:rows.length+bO.length<=4611686018427387904) :
  xY P base env st ⟨d,.call ⟨.builtin .append,#[x,y],#[t,t]⟩,ty,pos,after,gd⟩ (.cY sz (rows++bO) tk) (st.bD tk ⟨e,sz,(rows++bO).length,none⟩) :=
 Kg ht ht (.inr ⟨e,rfl⟩) hi hz fw rZ hx fc hn NT λg w tmps he=>vH (tH hs (aP he hy))
theorem bt.tok {todo:List Item} {i e sz:Nat} (hx:lookup i env=some (.d (.ex (.slice none 0 0)))) (h:bt P f N S Q todo ((i,.cY sz [] st.ar.length)::env) (st.tok ⟨e,sz,0,none⟩)):bt P f N S Q todo env st:=by
 intro g w tmps hinv hh he hn;obtain ⟨g',h1,dY,hs⟩:=hinv.Is e sz;refine h g' w tmps dY (hh.step hs) ?_ hn;intro j y hy;unfold lookup at hy;cases hb:Nat.beq j i with
 | true =>
  rw [hb] at hy;simp only [Option.some.injEq] at hy;subst hy;have:=zav hb;subst this;obtain ⟨v,k1,k2⟩:=he j _ hx;rw [k2.bN] at k1;exact ⟨_,k1,.cY sz [] _ _ e 0 (.nil sz _) (by simp [St.tok]) (zar _) (λ_=>.inl h1.symm)⟩
 | false =>
  rw [hb] at hy;exact (he.mono hs.dB) j y hy
theorem Kh {sz:Nat} {bO:List (List D)} {inf:TypeInfo} {z:Value} {ev:EV} (ht:P.underlying t=some (.slice e)) (hi:P.info? e=some inf) (hz:inf.zero=some z) (fw:inf.size=sz) (rZ:z.cells.size=sz)
  (hx:cX env x=some (.d (.ex (.slice none 0 0)))) (hy:cX env y=some ev) (hs:wC ev=some (sz,bO))
  (hn:bO.length*inf.bytes<=140737488355328) (NT:bO.length<=4611686018427387904) :
  xY P base env st ⟨d,.call ⟨.builtin .append,#[x,y],#[t,t]⟩,ty,pos,after,gd⟩ (.cY sz bO st.ar.length) ((st.tok ⟨e,sz,0,none⟩).bD st.ar.length ⟨e,sz,bO.length,none⟩):=by
 intro g w tmps hinv he;obtain ⟨g1,k1,k2,k3⟩:=hinv.Is e sz;obtain ⟨news,xr⟩:=vH (P:=P) ((tH hs (aP he hy)).mono k3.dB.cX);obtain ⟨v',g',w',iE,h1,h2,h3⟩:=EX (ty:=ty) (rows:=[]) ht ht (.inr ⟨e,rfl⟩) hi hz fw rZ k2 (.cY sz [] st.ar.length (.slice none 0 0) e 0 (.nil sz _) (by simp [St.tok]) (zar _) (λ_=>.inl k1.symm)) (by simp [St.tok]) (by simpa using hn) (by simpa using NT) xr;exact ⟨v',g',w',by simp [execOp,(aP he hx).bN,resolve,invoke,builtin,iE],by simpa using h1,by simpa using h2,by simpa using k3.trans h3⟩
end rules
def lay (cells new:Array Value) (off:Nat):Array Value:=new.zipIdx.foldl (λcs (c,j)=>cs.setIfInBounds (off+j) c) cells
theorem Ki (off:Nat):∀ (l:List Value) (k:Nat) (cells:Array Value),((l.zipIdx k).foldl (λ(cs:Array Value) (p:Value×Nat)=>cs.setIfInBounds (off+p.2) p.1) cells).size=cells.size /\
  ∀ i,i<cells.size->((l.zipIdx k).foldl (λ(cs:Array Value) (p:Value×Nat)=>cs.setIfInBounds (off+p.2) p.1) cells)[i]?=if off+k<=i/\i<off+k+l.length then l[i-(off+k)]? else cells[i]?
 | [],k,cells=>by simp;intro i hi h1 h2;omega
 | v::l,k,cells=>by
  obtain ⟨h1,h2⟩:=Ki off l (k+1) (cells.setIfInBounds (off+k) v);rw [List.zipIdx_cons,List.foldl_cons];refine ⟨by rw [h1];simp,λi hi=>?_⟩
  rw [h2 i (by simpa using hi)];by_cases hc:off+(k+1)<=i/\i<off+(k+1)+l.length
  ·rw [zaa hc,zaa (by simp;omega)];have:i-(off+k)=(i-(off+(k+1)))+1:=by omega
   rw [this,List.getElem?_cons_succ]
  ·rw [zab hc];by_cases he:i=off+k
   ·subst he;rw [zaa (by simp)];simp [hi]
   ·rw [zab (by simp;omega)];simp [zcj,zcn he]
theorem NW (cells new:Array Value) (off:Nat) (h:off+new.size<=cells.size) :
  (lay cells new off).size=cells.size/\∀ i,i<cells.size->(lay cells new off)[i]?=if off<=i/\i<off+new.size then new[i-off]? else cells[i]?:=by
 have:=Ki off new.toList 0 cells;unfold lay;rw [←Array.foldl_toList,Array.toList_zipIdx];simpa using this
def EY (lim:Nat->Nat) (w:World) (cs:List D) (vs:Array Value):Prop :=
 vs.size=cs.length/\∀ (i:Nat) c (u:Value),cs[i]?=some c->vs[i]?=some u->dA lim w c u/\u.oneCell'=true
def QY (cs:List D) (off:Nat) (new:List D):List D:=cs.take off++new++cs.drop (off+new.length)
theorem EY.lay {lim:Nat->Nat} {w:World} {cs new:List D} {vs us:Array Value} {off:Nat} (h:EY lim w cs vs) (hn:EY lim w new us) (hf:off+new.length<=cs.length):EY lim w (QY cs off new) (lay vs us off):=by
 obtain ⟨h1,h2⟩:=NW vs us off (by rw [h.1,hn.1];exact hf);refine ⟨by rw [h1,h.1];simp [QY];omega,λi c u hc hu=>?_⟩
 have hi:i<vs.size:=by rw [←h1];exact (zau.1 hu).1
 rw [h2 i hi] at hu;unfold QY at hc;have DQ:=h.1;have Qz:=hn.1;by_cases hA:i<off
 ·rw [zab (by omega)] at hu;rw [zat,zao (by simp;omega),zal,zaa hA] at hc;exact h.2 i c u hc hu
 ·by_cases hB:i<off+new.length
  ·rw [zaa (by omega)] at hu;rw [zat,zaw (by simp;omega),zao (by simp;omega)] at hc;have e1:(cs.take off).length=off:=by simp;omega
   rw [e1] at hc;exact hn.2 _ c u hc hu
  ·rw [zab (by omega)] at hu;rw [zaw (by simp;omega)] at hc;have e1:(cs.take off++new).length=off+new.length:=by simp;omega
   rw [e1,zbd] at hc;have e2:off+new.length+(i-(off+new.length))=i:=by omega
   rw [e2] at hc;exact h.2 i c u hc hu
def cellsD:EV->Option (List D)
 | .d (.ex v)=>if v.oneCell' then some [.ex v] else none
 | .d (.agg cs)=>some cs
 | .d (.sl sz rows)=>some [.sl sz rows]
 | .d (.ro cs)=>some [.ro cs]
 | .d (.e0 sz)=>some [.e0 sz]
 | .cY sz rows _=>some [.sl sz rows]
 | _=>none
theorem lZ {g:b7} {w:World} {st:St} {e:EV} {cs:List D} {v:Value} (h:cellsD e=some cs) (hv:bK g w st e v):EY g.lim w cs v.cells:=by
 have key:∀ {e':EV} {DR:List EV},gF e'=some DR->DR=cs.map EV.d->bK g w st e' v->EY g.lim w cs v.cells:=by
  intro e' DR hc hm GG;obtain ⟨k1,k2⟩:=qR hc GG;refine ⟨by rw [k1,hm];simp,λi c u sF hu=>?_⟩
  have:=k2 i (.d c) u (by rw [hm,zbe,sF];rfl) hu;exact ⟨by cases this.1 with|d _ _ h=>exact h,this.2⟩
 cases e with
 | d x =>
  cases x with
  | ex u =>
   simp only [cellsD] at h;split at h
   ·rename_i h1;cases h;exact key (e':=.d (.ex u)) (by simp only [gF];rw [zaa h1];rfl) rfl hv
   ·cases h
  | agg DR=>cases h;exact key (e':=.d (.agg cs)) rfl rfl hv
  | eF=>cases h
  | sl sz rows=>cases h;exact key (e':=.d (.sl sz rows)) rfl rfl hv
  | ro DR=>cases h;exact key (e':=.d (.ro DR)) rfl rfl hv
  | e0 sz=>cases h;exact key (e':=.d (.e0 sz)) rfl rfl hv
  | any=>cases h
 | cY sz rows t =>
  cases h;cases hv with|cY _ _ _ _ _ _ hd=>exact key (e':=.d (.sl sz rows)) rfl rfl (.d _ _ hd)
 | ref=>cases h
 | JW=>cases h
 | mp=>cases h
 | wv=>cases h
 | agg=>cases h
 | eF=>cases h
 | gd=>cases h
 | vc=>cases h
 | vp=>cases h
 | vw=>cases h
def DT (place:Nat->Option (Nat×Nat)) (env:Env):List D->List (Nat×Operand)->Option (List D)
 | cs,[]=>some cs
 | cs,(i,x)::l=>match place i,cX env x with
  | some (off,size),some e=>match cellsD e with
   | some new=>match Nat.beq new.length size,Nat.ble (off+size) cs.length with
    | true,true=>DT place env (QY cs off new) l
    | _,_=>none
   | none=>none
  | _,_=>none
theorem tK {g:b7} {w:World} {st:St} {env:Env} {tmps:Array Value} (he:dV g w st env tmps) {place:Nat->Option (Nat×Nat)}:∀ (l:List (Nat×Operand)) (cs:List D) (vs:Array Value) (r:List D),DT place env cs l=some r->EY g.lim w cs vs ->
  ∃ us,Instr.fill place vs (l.map λp=>(p.1,Act.eval ⟨tmps,[]⟩ p.2))=some us/\EY g.lim w r us/\r.length=cs.length
 | [],cs,vs,r,h,hc=>by simp [DT] at h;subst h;exact ⟨vs,rfl,hc,rfl⟩
 | (i,x)::l,cs,vs,r,h,hc=>by
  unfold DT at h;split at h
  ·rename_i off size e hp hx;split at h
   ·rename_i new hn;split at h
    ·rename_i Hn Ho;have h1:=zav Hn;have h2:=zae Ho;have Zr:=lZ hn (aP he hx);have Wd:=hc.lay Zr (off:=off) (by omega);obtain ⟨us,k1,k2,k3⟩:=tK he l _ _ r h Wd;refine ⟨us,?_,k2,by rw [k3];simp [QY];omega⟩;have hs:=Zr.1;have DQ:=hc.1;simp only [zap,Instr.fill,hp];rw [zab (by simp;omega)];exact k1
    ·cases h
   ·cases h
  ·cases h
def Kj (P:Program) (t:TypeId):Nat:=match P.info? t with
 | some i=>i.size
 | none=>0
def placeOf (P:Program) (fs:Array Field) (i:Nat):Option (Nat×Nat):=(fs[i]?).map λf=>(f.offset,Kj P f.type)
section rules
variable {P:Program} {f:Ctx} {N:Nat} {S:Start} {Q:EV->St->Prop} {k:List Item} {base:Nat} {env:Env} {st:St} {ops rest:List Oper}
 {d:Option Tmp} {ty:TypeId} {pos:String} {after:Array Edge} {gd:Option (Nat×Bool)} {t t2 e:TypeId} {x y:Operand}
theorem tL {inf:TypeInfo} {z:Value} (hi:P.info? t=some inf) (hz:inf.zero=some z) (w:World):(zeroValue t).run P w=.ok z w:=by simp [zeroValue,typeInfo,hi,hz]
theorem Dl (fs:List Field) (h:∀ f∈fs,(P.info? f.type).isSome) (w:World):(fs.mapM (λf=>do pure (f.offset,←sizeOf f.type):Field->Sem (Nat×Nat))).run P w=.ok (fs.map λf=>(f.offset,Kj P f.type)) w:=by
 induction fs with
 | nil=>rfl
 | cons f fs ih =>
  obtain ⟨i,hi⟩:=Option.isSome_iff_exists.1 (h f (by simp));have ih':=ih (λg hg=>h g (by simp [hg]));simp only [List.mapM_cons,Sem.run_bind,pX hi,Result.andThen_ok,Sem.run_pure,ih',zap,Kj,hi]
theorem T2 {fs:Array Field} {inf:TypeInfo} {z:Value} {zs r:List D} {l:List (Nat×Operand)} (ht:P.underlying t=some (.struct fs)) (hi:P.info? t=some inf) (hz:inf.zero=some z) (rZ:cellsD (.d (cv z))=some zs)
  (T3:fs.toList.all (λf=>(P.info? f.type).isSome)=true) (hl:DT (placeOf P fs) env zs l=some r):aL P env st ⟨d,.build t l.toArray,ty,pos,after,gd⟩ (.d (.agg r)):=by
 intro g base w tmps hinv he;have Aq:=lZ (g:=g) (w:=w) (st:=st) rZ (.d _ _ (qO _ _ z));obtain ⟨us,h1,h2,h3⟩:=tK he l zs z.cells r hl Aq;refine ⟨.agg us,.d _ _ (.agg r us h2.1 (λi u hu=>?_) λi c u hc hu=>(h2.2 i c u hc hu).1),λw' hb=>?_⟩
 ·have hi':i<r.length:=by rw [←h2.1];exact (zau.1 hu).1
  exact (h2.2 i _ u (zaf hi') hu).2
 ·have YQ:(fs.mapM (λf=>do pure (f.offset,←sizeOf f.type):Field->Sem (Nat×Nat))).run P w'=.ok (fs.toList.map λf=>(f.offset,Kj P f.type)).toArray w':=by
   rw [←Array.toArray_toList (xs:=fs),zfr];simp only [Sem.run_map,Dl (P:=P) fs.toList (λf hf=>zaz.1 T3 f hf) w',Result.andThen_ok]
  have MC:(λi:Nat=>((fs.toList.map λf=>(f.offset,Kj P f.type)).toArray)[i]?)=placeOf P fs:=by
   funext i;simp [placeOf]
  simp only [execOp,Instr.build,Sem.run_bind,tL hi hz,Result.andThen_ok,run_underlying ht,YQ,zep];rw [MC];simp [h1]
theorem Bh {len sz:Nat} {inf:TypeInfo} {z:Value} {zs:List D} {rows:List (List D)} {l:List (Nat×Operand)} (ht:P.underlying t=some (.slice e)) (hi:P.info? e=some inf) (fT:inf.size=sz) (hz:inf.zero=some z) (rZ:z.cells.size=sz)
  (hlen:0<len) (yb:len*sz<=16777216) (Dm:(List.replicate len zs).flatten.length=len*sz) (NX:cellsD (.d (cv z))=some zs)
  (hl:DT (λi=>some (i*sz,sz)) env (List.replicate len zs).flatten l=some rows.flatten) (hr:rows.all (λr=>Nat.beq r.length sz)=true) (hn:rows.length=len) (Ml:0<sz) :
  A3 P env st ⟨d,.buildSlice t len l.toArray,ty,pos,after,gd⟩ (.d (.sl sz rows)):=by
 intro g base w tmps hinv he;have Aq:=lZ (g:=g) (w:=w) (st:=st) NX (.d _ _ (qO _ _ z));have QA:zs.length=sz:=by rw [←Aq.1,rZ]
 have j5:∀ row∈rows,row.length=sz:=by
  intro row hm;rw [zaz] at hr;exact zav (hr row hm)
 have sI:EY g.lim w (List.replicate len zs).flatten ((Array.range (len*sz)).map (z.cells[· % z.cells.size]!)):=by
  refine ⟨by simp [Dm],λi c u hc hu=>?_⟩;have oM:i<len*sz:=by rw [←Dm];exact (zad.1 hc).1
  have yc:i % sz<sz:=zem _ Ml;have hdiv:i / sz<len:=zdw (by rw [zdp];exact oM);have Mz:i=i / sz*sz+i % sz:=by rw [zdp];exact (zew i sz).symm
  have hf:=kX (rows:=List.replicate len zs) (sz:=sz) (i:=i / sz) (j:=i % sz) (row:=zs) (c:=zs[i % sz]'(by omega)) (by intro row hm;rw [List.eq_of_mem_replicate hm];exact QA) (by simp [List.getElem?_replicate,hdiv]) (zaf (by omega));rw [←Mz,hc] at hf;have We:zs[i % sz]?=some c:=by cases hf;exact zaf (by omega)
  have Zs:z.cells[i % sz]?=some u:=by
   have j0:i % sz<z.cells.size:=by omega
   have:((Array.range (len*sz)).map (z.cells[· % z.cells.size]!))[i]?=some (z.cells[i % z.cells.size]!):=by simp [oM]
   rw [this] at hu;cases hu;rw [rZ,zdz z.cells (i % sz) j0,zbi j0]
  exact Aq.2 _ c u We Zs
 obtain ⟨us,h1,h2,h3⟩:=tK he l _ _ _ hl sI;have El:=j4 j5;obtain ⟨dm,k1,k2,k3⟩:=TT (g:=g) (w:=w) (w0:=w) (sz:=sz) (cap:=len) (rows:=rows) (vs:=us) (e:=e) rfl rfl rfl rfl j5 (by omega) (by rw [h2.1,El];exact zar _) h2.2;refine .inl ⟨.slice (some ⟨w.heap.size,0,none⟩) len len,dm,_,?_,.d _ _ (by rw [hn] at k1;exact k1),k2,k3⟩;subst fT;have Hq:¬ (16777216<len*inf.size):=by omega
 have fi:¬ (len=0∨inf.size=0):=by omega
 have pU:¬ len*inf.size=0:=by
  intro h0;rcases Nat.mul_eq_zero.1 h0 with h|h <;> omega
 have Mk:Instr.fill (λi=>some (i*inf.size,inf.size)) (Array.map (λx=>z.cells[x % z.cells.size]!) (Array.range (len*inf.size))) (List.map (λp=>(p.1,Act.eval ⟨tmps,[]⟩ p.2)) l)=some us:=h1;simp [execOp,Instr.buildSlice,run_underlying ht,pX hi,Hq,pU,tL hi hz,Mk,newRow]
theorem eT {inf:TypeInfo} (ht:P.underlying t=some (.slice e)) (hi:P.info? e=some inf) :
  A3 P env st ⟨d,.buildSlice t 0 #[],ty,pos,after,gd⟩ (.d (.e0 inf.size)):=by
 intro g base w tmps hinv he;refine .inl ⟨.slice (some ⟨w.heap.size,0,none⟩) 0 0,λb=>g.lim b,w.alloc (.cells #[] e),?_,.d _ _ (.e0 _ _ (.inr ⟨_,_,rfl⟩)),(Below.refl _ w).alloc (zar _) _,λ_ _=>rfl⟩;simp [execOp,Instr.buildSlice,run_underlying ht,pX hi,newRow,Instr.fill];rw [show Array.map (λ_=>(default:Value)) (Array.range 0)=#[] from by simp [Array.range_zero']]
end rules
def tmpsOf:List Operand->List Tmp
 | []=>[]
 | .tmp t::l=>t::tmpsOf l
 | _::l=>tmpsOf l
def EZ:Op->List Tmp
 | .move x|.assign x|.box _ x|.load _ x|.nilCheck x|.unOp _ _ x|.convert _ _ x|.sliceToArrayPointer _ x|.makeInterface _ x
 | .makeChan _ x|.fieldAddr _ x _|.field _ x _|.range _ x|.next x _|.entry x|.typeAssert x _ _ _|.extract x _|.panic x|.recv _ x _=>tmpsOf [x]
 | .pick c a b=>tmpsOf [c,a,b]
 | .build _ ps|.buildSlice _ _ ps=>tmpsOf (ps.toList.map (·.2))
 | .store _ a v|.binOp _ _ a v _|.makeSlice _ a v|.indexAddr _ a v|.index _ a v|.lookup _ a v _|.mapEntry _ a v|.send a v=>tmpsOf [a,v]
 | .makeFunc _ first captured=>tmpsOf (first.toList++captured.toList)
 | .makeMap _ r=>tmpsOf r.toList
 | .slice _ x l h m=>tmpsOf (x::(l.toList++h.toList++m.toList))
 | .mapUpdate _ m k v|.entryStore _ m k v|.insert _ m k v=>tmpsOf [m,k,v]
 | .call c=>tmpsOf ((match c.callee with|.value f=>[f]|.invoke r _=>[r]|.builtin _=>[])++c.args.toList)
 | _=>[]
def Kk (l:List Oper) (o:Oper):List Tmp:=match o.guard with
 | none=>EZ o.op
 | some (j,_)=>match (l[j]?).bind (·.dst) with
  | some t=>t::EZ o.op
  | none=>EZ o.op
def Cs (env:Env):List Tmp->Env
 | []=>[]
 | t::ts=>match lookup t env with
  | some x=>(t,x)::Cs env ts
  | none=>Cs env ts
def na (l:List Oper) (o:Oper) (env:Env):Env:=Cs env (Kk l o)
theorem tM {env:Env} {t:Tmp} {y:EV}:∀ {ts:List Tmp},lookup t (Cs env ts)=some y->t∈ts/\lookup t env=some y
 | [],h=>by simp [Cs,lookup] at h
 | s::ts,h=>by
  unfold Cs at h;split at h
  ·rename_i x hx;unfold lookup at h;cases hb:Nat.beq t s with
   | true =>
    rw [hb] at h;have:=zav hb;subst this;exact ⟨by simp,hx.trans h⟩
   | false =>
    rw [hb] at h;obtain ⟨h1,h2⟩:=tM h;exact ⟨by simp [h1],h2⟩
  ·obtain ⟨h1,h2⟩:=tM h;exact ⟨by simp [h1],h2⟩
def vd (acc:List Nat):List Edge->Nat
 | []=>0
 | e::es=>(if Region.binds .any e then 2 ^ e.on ||| acc.getD e.on 0 else 0) ||| vd acc es
def dZ:List Oper->List Nat->List Nat
 | [],acc=>acc
 | o::l,acc=>dZ l (acc++[vd acc o.after.toList])
def vI (listed:Array Bool) (i m:Nat):Prop:=listed.getD i false=true->∀ j,m.testBit j=true->listed.getD j false=true
def wG (ops:List Oper) (listed:Array Bool):Prop:=∀ (i:Nat) o,ops[i]?=some o->listed.getD i false=true->∀ e∈o.after,Region.binds .any e=true->listed.getD e.on false=true
theorem uP {listed:Array Bool} {acc:List Nat} (h:∀ (k:Nat) m,acc[k]?=some m->vI listed k m):∀ (es:List Edge),(∀ e∈es,Region.binds .any e=true->listed.getD e.on false=true)->∀ j,(vd acc es).testBit j=true->listed.getD j false=true
 | [],_,j,hj=>by simp [vd] at hj
 | e::es,he,j,hj=>by
  unfold vd at hj;rw [Nat.testBit_or,zbx] at hj;rcases hj with hj|hj
  ·split at hj
   ·rename_i hb;have hon:=he e (by simp) hb;rw [Nat.testBit_or,zbx] at hj;rcases hj with hj|hj
    ·rw [Nat.testBit_two_pow] at hj;have:e.on=j:=by simpa using hj
     rw [←this];exact hon
    ·rw [zch] at hj;cases hm:acc[e.on]? with
     | none=>rw [hm] at hj;simp at hj
     | some m=>rw [hm] at hj;exact h e.on m hm hon j hj
   ·simp at hj
  ·exact uP h es (λe' A1=>he e' (by simp [A1])) j hj
theorem wH {ops:List Oper} {listed:Array Bool} (hc:wG ops listed):∀ (l:List Oper) (acc:List Nat),(∀ j:Nat,l[j]?=ops[acc.length+j]?)->(∀ (k:Nat) m,acc[k]?=some m->vI listed k m) ->
  ∀ (k:Nat) m,(dZ l acc)[k]?=some m->vI listed k m
 | [],acc,_,h=>h
 | o::l,acc,hl,h=>by
  unfold dZ;refine wH hc l _ (λj=>by have:=hl (j+1);simpa [zcp,zdm 1 j] using this) λk m hk=>?_;by_cases cJ:k<acc.length
  ·rw [zao cJ] at hk;exact h k m hk
  ·have Qy:=(zad.1 hk).1;simp at Qy;have:k=acc.length:=by omega
   subst this;have:m=vd acc o.after.toList:=by simpa [zfc] using hk
   subst this;intro It;have ho:ops[acc.length]?=some o:=by simpa using (hl 0).symm
   exact uP h _ (λe he hb=>hc _ o ho It e (by simpa using he) hb)
theorem wI {ops:List Oper} {listed:Array Bool} (hc:wG ops listed) {i:Nat} {o:Oper} (ho:ops[i]?=some o) (hr:∀ e∈o.after,Region.binds .any e=true->listed.getD e.on false=true) :
  ∀ j,((dZ ops []).getD i 0).testBit j=true->listed.getD j false=true:=by
 -- list it: the greater set is closed,too,but for i itself: go by the mask's own making
 have key:∀ (l:List Oper) (acc:List Nat),(∀ j:Nat,l[j]?=ops[acc.length+j]?)->(∀ (k:Nat) m,acc[k]?=some m->vI listed k m)->(acc.length<=i) ->
   ∃ Wf,(dZ l acc)[i]?=some (vd Wf o.after.toList)/\∀ (k:Nat) m,Wf[k]?=some m->vI listed k m:=by
  intro l
  induction l with
  | nil =>
   intro acc hl _ hle;have:=hl (i-acc.length);rw [show acc.length+(i-acc.length)=i by omega,ho] at this;simp at this
  | cons o' l ih =>
   intro acc hl hg hle;have Tz:∀ j:Nat,l[j]?=ops[(acc++[vd acc o'.after.toList]).length+j]?:=λj=>by have:=hl (j+1);simpa [zcp,zdm 1 j] using this
   have hg':∀ (k:Nat) m,(acc++[vd acc o'.after.toList])[k]?=some m->vI listed k m:=by
    intro k m hk;by_cases cJ:k<acc.length
    ·rw [zao cJ] at hk;exact hg k m hk
    ·have Qy:=(zad.1 hk).1;simp at Qy;have:k=acc.length:=by omega
     subst this;have:m=vd acc o'.after.toList:=by simpa [zfc] using hk
     subst this;intro It;have mX:ops[acc.length]?=some o':=by simpa using (hl 0).symm
     exact uP hg _ (λe he hb=>hc _ o' mX It e (by simpa using he) hb)
   by_cases he:acc.length=i
   ·subst he;have mX:o'=o:=by
     have:=hl 0;rw [zdn,ho] at this;simpa using this
    subst mX;have hm:∀ (l:List Oper) (acc:List Nat) (k:Nat) m,acc[k]?=some m->(dZ l acc)[k]?=some m:=by
     intro l
     induction l with
     | nil=>intro acc k m h;exact h
     | cons o'' l ih' =>
      intro acc k m h;unfold dZ;exact ih' _ k m (by rw [zao (zad.1 h).1];exact h)
    refine ⟨acc,?_,hg⟩;unfold dZ;exact hm l _ _ _ (by simp)
   ·unfold dZ;exact ih _ Tz hg' (by simp;omega)
 obtain ⟨Wf,h1,h2⟩:=key ops [] (by simp) (by simp) (zfs _);intro j hj;rw [zch,h1,zcq] at hj;exact uP h2 _ (λe he hb=>hr e (by simpa using he) hb) j hj
def pY (n:Nat) (q:Nat->Bool):Bool:=(List.range n).all q
theorem cP {n:Nat} {q:Nat->Bool} (h:pY n q=true) {i:Nat} (hi:i<n):q i=true:=by
 unfold pY at h;rw [zaz] at h;exact h i (List.mem_range.2 hi)
def eC (l:List Oper) (i:Nat):Option Tmp:=(l[i]?).bind (·.dst)
def ct (l:List Oper) (p:Nat):Bool :=
 let ms:=dZ l []
 pY p (λi=>match l[i]? with
  | some o=>(Kk l o).all λt=>pY p λj=>i==j || eC l j != some t || (decide (j<i) && (ms.getD i 0).testBit j) || (decide (i<j) && (ms.getD j 0).testBit i)
  | none=>true) &&
 pY p (λi=>pY p λj=>i==j || (eC l i).isNone || eC l i != eC l j) &&
 pY l.length (λi=>decide (i<p) || pY i λj=>(ms.getD i 0).testBit j) &&
 pY l.length (λi=>match l[i]? with
  | some o=>o.after.toList.all λe=>!Region.binds .any e || decide (e.on<i)
  | none=>true) &&
 decide (p<=l.length)
def uQ (P:Program) (l:List Oper) (env:Env) (st:St) (o:Oper) (x:EV):Prop :=
 (o.guard=none/\A3 P env st o x) ∨
 ∃ (j:Nat) (want:Bool) (t:Tmp) (c:EV) (b:Bool) (y:EV) (env':Env),o.guard=some (j,want)/\(l[j]?).bind (·.dst)=some t/\lookup t env=some c/\Dk c want=some b/\x=.gd b y/\zR b env env'/\(b=true->A3 P env' st o y)
def gG:Env->List Oper->List EV->Env
 | env,o::os,x::xs=>gG (env.put o.dst x) os xs
 | env,_,_=>env
def Bi (P:Program) (N:Nat) (l:List Oper) (st:St):List Oper->List EV->Env->Prop
 | [],[],_=>True
 | o::os,x::xs,env=>gD N o.dst=true/\uQ P l (na l o env) st o x/\Bi P N l st os xs (env.put o.dst x)
 | _,_,_=>False
theorem Bi.length {P:Program} {N:Nat} {l:List Oper} {st:St}:∀ {os:List Oper} {xs:List EV} {env:Env},Bi P N l st os xs env->xs.length=os.length
 | [],[],_,_=>rfl
 | o::os,x::xs,env,h=>by simp [Bi.length h.2.2]
 | [],x::xs,_,h=>h.elim
 | o::os,[],_,h=>h.elim
theorem MD {env:Env} {d:Option Tmp} {x:EV} {s:Tmp}:lookup s (env.put d x)=if d=some s then some x else lookup s env:=by
 cases d with
 | none=>simp [Env.put]
 | some d =>
  simp only [Env.put,lookup];cases hb:Nat.beq s d with
  | true=>have:=zav hb;subst this;simp
  | false =>
   have:¬ d=s:=by rintro rfl;rw [zfb] at hb;cases hb
   simp [this]
theorem kr {s:Tmp} {y:EV}:∀ {os:List Oper} {xs:List EV} {env:Env},xs.length=os.length->lookup s (gG env os xs)=some y ->
  (∃ (j:Nat) (o:Oper),os[j]?=some o/\xs[j]?=some y/\o.dst=some s)∨((∀ (j:Nat) (o:Oper),os[j]?=some o->o.dst≠some s)/\lookup s env=some y)
 | [],[],env,_,h=>.inr ⟨by simp,h⟩
 | o::os,x::xs,env,hl,h=>by
  rcases kr (os:=os) (xs:=xs) (env:=env.put o.dst x) (by simpa using hl) h with ⟨j,o',h1,h2,h3⟩|⟨h1,h2⟩
  ·exact .inl ⟨j+1,o',by simpa using h1,by simpa using h2,h3⟩
  ·rw [MD] at h2;split at h2
   ·rename_i hd;cases h2;exact .inl ⟨0,o,rfl,rfl,hd⟩
   ·rename_i hd;refine .inr ⟨λj o' ho=>?_,h2⟩;cases j with
    | zero=>simp at ho;subst ho;exact hd
    | succ j=>exact h1 j o' (by simpa using ho)
 | [],_::_,_,hl,_=>by simp at hl
 | _::_,[],_,hl,_=>by simp at hl
theorem Bi.get {P:Program} {N:Nat} {l:List Oper} {st:St}:∀ {os:List Oper} {xs:List EV} {env:Env} {i:Nat} {o:Oper},Bi P N l st os xs env->os[i]?=some o ->
  ∃ x,xs[i]?=some x/\gD N o.dst=true/\uQ P l (na l o (gG env (os.take i) (xs.take i))) st o x
 | o'::os,x::xs,env,0,o,h,ho=>by
  simp at ho;subst ho;exact ⟨x,rfl,h.1,by simpa [gG] using h.2.1⟩
 | o'::os,x::xs,env,i+1,o,h,ho=>by
  obtain ⟨y,h1,h2,h3⟩:=Bi.get (i:=i) h.2.2 (by simpa using ho);exact ⟨y,by simpa using h1,h2,by simpa [gG] using h3⟩
 | [],xs,env,i,o,h,ho=>by simp at ho
 | o'::os,[],_,_,_,h,_=>h.elim
section drawn
variable {P:Program} {f:Ctx} {N:Nat} {S:Start} {Q:EV->St->Prop} {k:List Item}
theorem yV {l:List Oper} {p:Nat} (E1:∀ i,p<=i->i<l.length->∀ j,j<i->((dZ l []).getD i 0).testBit j=true)
  (xt:∀ (i:Nat) o,l[i]?=some o->∀ e∈o.after,Region.binds .any e=true->e.on<i) :
  ∀ (fuel t m:Nat) (listed:Array Bool),p<=m->m<=l.length->l.length-m<=fuel->listed.size=l.length->(∀ i,i<l.length->listed.getD i true=decide (i<m)) ->
   Region.linearise.go .any l.toArray fuel t listed []=List.range' m (l.length-m)
 | fuel,t,m,listed,hp,hm,hf,hs,hl=>by
  have hD:∀ i,i<l.length->listed.getD i false=decide (i<m):=λi hi=>by
   rw [←hl i hi];simp [zas,hs,hi]
  have sE:wG l listed:=by
   intro i o ho QZ e he hb;have hi:=(zad.1 ho).1;have:=xt i o ho e he hb;rw [hD i hi] at QZ;rw [hD _ (by omega)];simp at QZ ⊢;omega
  have Wg:Region.ready .any l.toArray listed=if m<l.length then [m] else []:=by
   have uG:∀ i,i∈Region.ready .any l.toArray listed↔i=m/\m<l.length:=by
    intro i;rw [mem_ready];constructor
    ·rintro ⟨h0,o,ho,l7⟩;have mX:l[i]?=some o:=by simpa using ho
     have hi:=(zad.1 mX).1;rw [hl i hi] at h0;have YR:m<=i:=by simpa using h0
     have tN:=wI sE mX (λe he hb=>l7 e he hb);by_cases he:i=m
     ·exact ⟨he,by omega⟩
     ·have h1:=tN m (E1 i (by omega) hi m (by omega));rw [hD m (by omega)] at h1;simp at h1
    ·rintro ⟨rfl,cJ⟩;refine ⟨by rw [hl i cJ];simp,l[i],by simp [cJ],λe he hb=>?_⟩
     have:=xt i l[i] (zaf cJ) e he hb;rw [hD _ (by omega)];simpa using this
   have Q0:(Region.ready .any l.toArray listed).Nodup:=(List.nodup_range).filter _;split
   ·rename_i cJ;have h1:∀ i∈Region.ready .any l.toArray listed,i=m:=λi hi=>((uG i).1 hi).1
    have h2:m∈Region.ready .any l.toArray listed:=(uG m).2 ⟨rfl,cJ⟩;generalize Region.ready .any l.toArray listed=rs at *
    match rs with
    | []=>cases h2
    | [a]=>rw [h1 a (by simp)]
    | a::b::rs' =>
     have ha:=h1 a (by simp);have hb:=h1 b (by simp);simp [ha,hb] at Q0
   ·rename_i cJ;exact List.eq_nil_iff_forall_not_mem.2 λi hi=>cJ ((uG i).1 hi).2
  cases fuel with
  | zero =>
   have:l.length-m=0:=by omega
   rw [this];rfl
  | succ fuel =>
   have Wh:((List.range l.toArray.size).filter λi=>!listed.getD i true && ((l.toArray[i]?).map (·.after.all λe=>!Region.binds .any e || listed.getD e.on false)).getD false)=Region.ready .any l.toArray listed:=rfl
   simp only [Region.linearise.go,Wh,Wg];by_cases cJ:m<l.length
   ·rw [zaa cJ];simp only [zam,Nat.mod_one,List.getElem?_cons_zero];rw [linearise_go_acc,yV E1 xt fuel _ (m+1) _ (by omega) cJ (by omega) (by simpa using hs) ?_]
    ·have:l.length-m=(l.length-(m+1))+1:=by omega
     rw [this,List.range'_succ];rfl
    ·intro i hi;by_cases he:i=m
     ·subst he;simp [zas,hs,hi]
     ·rw [getD_set_ne true (zcn he),hl i hi];have:(i<m)=(i<m+1):=by apply propext;omega
      simp [this]
   ·rw [zab cJ];have:l.length-m=0:=by omega
    rw [this];rfl
theorem ME {l:List Oper} {p:Nat} {env:Env} {st:St} {xs:List EV} (hp:p<=l.length)
  (Zt:∀ i j t,i<p->j<p->i≠j->eC l i=some t->eC l j≠some t)
  (Vg:∀ (i:Nat) o,i<p->l[i]?=some o->∀ t∈Kk l o,∀ j,j<p->j≠i->eC l j=some t->(j<i/\((dZ l []).getD i 0).testBit j=true)∨(i<j/\((dZ l []).getD j 0).testBit i=true))
  (E1:∀ i,p<=i->i<l.length->∀ j,j<i->((dZ l []).getD i 0).testBit j=true)
  (xt:∀ (i:Nat) o,l[i]?=some o->∀ e∈o.after,Region.binds .any e=true->e.on<i)
  (J1:Bi P N l st (l.take p) xs env) (Ct:cn P f N S Q l (l.drop p) k (gG env (l.take p) xs) st) :
  ∀ (Gy fuel t:Nat) (listed:Array Bool) (g:b7) (w:World) (tmps:Array Value),listed.size=l.length->wG l listed->(∀ i,p<=i->i<l.length->listed.getD i true=false) ->
   (((List.range p).filter λi=>!listed.getD i true).length=Gy)->Gy+(l.length-p)<=fuel->Inv g S.base w st->rW S g w st->tmps.size=N ->
   (∀ (s:Tmp),(∀ (j:Nat) x,j<p->listed.getD j false=true->eC l j=some s->xs[j]?=some x->∃ v,tmps[s]?=some v/\bK g w st x v) /\
    ((∀ j,j<p->listed.getD j false=true->eC l j≠some s)->∀ y,lookup s env=some y->∃ v,tmps[s]?=some v/\bK g w st y v)) ->
   eH P f (ox S Q) (.inRegion l.toArray (Region.linearise.go .any l.toArray fuel t listed [])::k) tmps w:=by
 have wx:=J1.length;have hxl':xs.length=p:=by rw [wx];simp;omega
 intro Gy
 induction Gy with
 | zero =>
  intro fuel t listed g w tmps hs sE Q1 Bj Kl hinv hh hN hJ;have l7:∀ i,i<p->listed.getD i true=true:=by
   intro i hi;have h0:=zbc Bj;have hn:i ∉ (List.range p).filter λi=>!listed.getD i true:=by rw [h0];simp
   rw [zcr,List.mem_range] at hn;cases hb:listed.getD i true with
   | true=>rfl
   | false=>exact absurd ⟨hi,by simp [hb]⟩ hn
  have Zu:=yV E1 xt fuel t p listed (zar _) hp (by omega) hs (λi hi=>by
   by_cases h:i<p
   ·rw [l7 i h];simp [h]
   ·rw [Q1 i (by omega) hi];simp [h])
  rw [Zu];have A4:(l.drop p).length=l.length-p:=by simp
  rw [←A4];have NY:∀ i,i<p->listed.getD i false=true:=λi hi=>by
   have:=l7 i hi;have cJ:i<listed.size:=by omega
   simpa [zas,cJ] using this
  refine Ct p (λj=>by rw [zbd]) g w tmps hinv hh (λs y hy=>?_) hN;rcases kr wx hy with ⟨j,o,h1,h2,h3⟩|⟨h1,h2⟩
  ·have hj:j<p:=by have:=(zad.1 h2).1;omega
   have ho:l[j]?=some o:=by rw [zal] at h1;rw [zaa hj] at h1;exact h1
   exact (hJ s).1 j y hj (NY j hj) (by simp [eC,ho,h3]) h2
  ·refine (hJ s).2 (λj hj _ hd=>?_) y h2;cases ho:l[j]? with
   | none=>simp [eC,ho] at hd
   | some o=>exact h1 j o (by rw [zal,zaa hj];exact ho) (by simpa [eC,ho] using hd)
 | succ Gy ih =>
  intro fuel t listed g w tmps hs sE Q1 Bj Kl hinv hh hN hJ;obtain ⟨fuel,rfl⟩:∃ n,fuel=n+1:=⟨fuel-1,by omega⟩
  -- an operation of the beginning that has not come up
  have hex:∃ i,i<p/\listed.getD i true=false:=by
   have:(List.range p).filter (λi=>!listed.getD i true)≠[]:=λh=>by rw [h] at Bj;simp at Bj
   obtain ⟨i,hi⟩:=zfi _ this;rw [zcr,List.mem_range] at hi;exact ⟨i,hi.1,by simpa using hi.2⟩
  have Pn:∀ i,i<l.length->listed.getD i false=listed.getD i true:=λi hi=>by
   have cJ:i<listed.size:=by omega
   simp [zas,cJ]
  have Wh:((List.range l.toArray.size).filter λi=>!listed.getD i true && ((l.toArray[i]?).map (·.after.all λe=>!Region.binds .any e || listed.getD e.on false)).getD false)=Region.ready .any l.toArray listed:=rfl
  -- the least such is ready
  have fi:Region.ready .any l.toArray listed≠[]:=by
   have Q2:∀ n i,i<=n->i<p->listed.getD i true=false->∃ i,i<p/\listed.getD i true=false/\∀ j,j<i->listed.getD j true=true:=by
    intro n
    induction n with
    | zero=>intro i hi MF h;exact ⟨i,MF,h,λj hj=>by omega⟩
    | succ n Zv =>
     intro i hi MF h;by_cases Mw:∃ j,j<i/\listed.getD j true=false
     ·obtain ⟨j,hj,GH⟩:=Mw;exact Zv j (by omega) (by omega) GH
     ·refine ⟨i,MF,h,λj hj=>?_⟩;cases hb:listed.getD j true with
      | true=>rfl
      | false=>exact absurd ⟨j,hj,hb⟩ Mw
   obtain ⟨i0,h0,h1⟩:=hex;obtain ⟨i,Iu,Km,n9⟩:=Q2 i0 i0 (zar _) h0 h1;have oM:i<l.length:=by omega
   have:i∈Region.ready .any l.toArray listed:=by
    rw [mem_ready];refine ⟨Km,l[i],by simp [oM],λe he hb=>?_⟩;have cJ:=xt i l[i] (zaf oM) e he hb;rw [Pn _ (by omega)];exact n9 _ cJ
   intro GF;rw [GF] at this;cases this
  simp only [Region.linearise.go,Wh];have hlen:0<(Region.ready .any l.toArray listed).length:=zde.2 fi;have yc:=zem t hlen;generalize hi:(Region.ready .any l.toArray listed)[t % (Region.ready .any l.toArray listed).length]=i;have Dn:(Region.ready .any l.toArray listed)[t % (Region.ready .any l.toArray listed).length]?=some i:=by rw [zaf yc,hi]
  rw [Dn];simp only [];rw [linearise_go_acc];have YR:i∈Region.ready .any l.toArray listed:=zbj Dn;obtain ⟨Km,o,ho,l7⟩:=mem_ready.1 YR;have mX:l[i]?=some o:=by simpa using ho
  have oM:=(zad.1 mX).1;have tN:=wI sE mX (λe he hb=>l7 e he hb);have Iu:i<p:=by
   rcases zgb i p with h|h
   ·exact h
   ·obtain ⟨i0,h0,h1⟩:=hex;have:=tN i0 (E1 i h oM i0 (by omega));rw [Pn i0 (by omega),h1] at this;cases this
  obtain ⟨x,hx,hd,vJ⟩:=J1.get (i:=i) (o:=o) (by rw [zal,zaa Iu];exact mX);have Vh:=wH sE l [] (by simp) (by simp)
  -- what the operation looks at
  have he:dV g w st (na l o (gG env ((l.take p).take i) (xs.take i))) tmps:=by
   intro s y hy;obtain ⟨QB,JX⟩:=tM hy;rcases kr (by simp [wx]) JX with ⟨j,o',h1,h2,h3⟩|⟨h1,h2⟩
   ·have mK:j<i:=by have:=(zad.1 h2).1;simp at this;omega
    have Bl:l[j]?=some o':=by
     rw [zal,zaa mK,zal,zaa (by omega)] at h1;exact h1
    have uR:eC l j=some s:=by simp [eC,Bl,h3]
    rcases Vg i o Iu mX s QB j (by omega) (by omega) uR with ⟨_,hb⟩|⟨cJ,_⟩
    ·exact (hJ s).1 j y (by omega) (tN j hb) uR (by rw [zal,zaa mK] at h2;exact h2)
    ·omega
   ·refine (hJ s).2 (λj hj yW uR=>?_) y h2;by_cases mK:j=i
    ·subst mK;rw [Pn j oM,Km] at yW;cases yW
    ·rcases Vg i o Iu mX s QB j hj mK uR with ⟨cJ,_⟩|⟨cJ,hb⟩
     ·cases Bl:l[j]? with
      | none=>simp [eC,Bl] at uR
      | some o'=>exact h1 j o' (by rw [zal,zaa cJ,zal,zaa hj];exact Bl) (by simpa [eC,Bl] using uR)
     ·have GH:j<l.length:=by omega
      have Zw:(dZ l [])[j]?=some ((dZ l []).getD j 0):=by
       cases hm:(dZ l [])[j]? with
       | none=>rw [zch,hm] at hb;simp at hb
       | some m=>rw [zch,hm];rfl
      have:=Vh j _ Zw yW i hb;rw [Pn i oM,Km] at this;cases this
  -- what remains behind it
  have Kn:((List.range p).filter λj=>!(listed.setIfInBounds i true).getD j true).length=Gy:=by
   have yd:∀ j,(listed.setIfInBounds i true).getD j true=(listed.getD j true || decide (j=i)):=by
    intro j;by_cases mK:j=i
    ·subst mK;simp [zas,hs,oM]
    ·rw [getD_set_ne true (zcn mK)];simp [mK]
   have Q3:((List.range p).filter λj=>!(listed.setIfInBounds i true).getD j true)=((List.range p).filter λj=>!listed.getD j true).filter λj=>!decide (j=i):=by
    rw [List.filter_filter];refine zej λj _=>?_
    rw [yd j];cases listed.getD j true <;> simp
   rw [Q3];have Q0:((List.range p).filter λj=>!listed.getD j true).Nodup:=List.nodup_range.filter _;have uG:i∈(List.range p).filter λj=>!listed.getD j true:=by rw [zcr,List.mem_range];exact ⟨Iu,by simp [Km]⟩
   have E2:∀ (L:List Nat),L.Nodup->i∈L->(L.filter λj=>!decide (j=i)).length+1=L.length:=by
    intro L
    induction L with
    | nil=>intro _ h;cases h
    | cons a L Zx =>
     intro hn hm;rw [zcd] at hn;by_cases ha:a=i
     ·subst ha;have:(L.filter λj=>!decide (j=a))=L:=by
       rw [zdt];intro b hb;have:b≠a:=λe=>hn.1 (e▸hb)
       simp [this]
      rw [zbk];simp [this]
     ·have uE:i∈L:=by
       rcases zan.1 hm with h|h
       ·exact absurd h.symm ha
       ·exact h
      rw [zbk];simp only [ha,zfj,zcb,zbt,zai];rw [Zx hn.2 uE]
   have:=E2 _ Q0 uG;omega
  have Q4:wG l (listed.setIfInBounds i true):=by
   intro j oj Bl yW e A1 hb;by_cases mK:j=i
   ·subst mK;rw [mX] at Bl;cases Bl;exact getD_set_true (l7 e A1 hb)
   ·rw [getD_set_ne false (zcn mK)] at yW;exact getD_set_true (sE j oj Bl yW e A1 hb)
  have Q5:∀ j,p<=j->j<l.length->(listed.setIfInBounds i true).getD j true=false:=λj hj GH=>by rw [getD_set_ne true (by omega)];exact Q1 j hj GH
  -- the step
  have next:∀ (dm:Nat->Nat) (w':World) (v:Value),Good g w st x dm w' v ->
    eH P f (ox S Q) (.inRegion l.toArray (Region.linearise.go .any l.toArray fuel (t / (Region.ready .any l.toArray listed).length) (listed.setIfInBounds i true) [])::k) (Act.put ⟨tmps,[]⟩ o.dst v).tmps w':=by
   rintro dm w' v ⟨Bg,hb,hl⟩;obtain ⟨dY,mA⟩:=hinv.grow (g':={ g with lim:=dm }) hb hl rfl rfl;refine ih fuel _ _ _ w' _ (by simpa using hs) Q4 Q5 Kn (by omega) dY (hh.step mA) (by rw [iK];exact hN) λs=>⟨λj y hj yW uR hy=>?_,λNZ y hy=>?_⟩
   ·by_cases mK:j=i
    ·subst mK;have Ko:o.dst=some s:=by simpa [eC,mX] using uR
     rw [hx] at hy;cases hy;rw [Ko];have fT:s<tmps.size:=by
      rw [Ko] at hd;have Wi:s+1<=N:=zae hd;rw [hN];exact Wi
     exact ⟨v,by simp [Act.put,fT],Bg⟩
    ·rw [getD_set_ne false (zcn mK)] at yW;obtain ⟨u,h1,h2⟩:=(hJ s).1 j y hj yW uR hy;have pU:o.dst≠some s:=λe=>Zt j i s hj Iu mK uR (by simp [eC,mX,e])
     refine ⟨u,?_,h2.mono mA.dB⟩;cases Q6:o.dst with
     | none=>exact h1
     | some d =>
      have:d≠s:=λe=>pU (by rw [Q6,e])
      simp [Act.put,zcj,this,h1]
   ·have pU:o.dst≠some s:=λe=>NZ i Iu (by simp [zas,hs,oM]) (by simp [eC,mX,e])
    obtain ⟨u,h1,h2⟩:=(hJ s).2 (λj hj yW=>NZ j hj (by
     by_cases mK:j=i
     ·subst mK;simp [zas,hs,oM]
     ·rw [getD_set_ne false (zcn mK)];exact yW)) y hy
    refine ⟨u,?_,h2.mono mA.dB⟩;cases Q6:o.dst with
    | none=>exact h1
    | some d =>
     have:d≠s:=λe=>pU (by rw [Q6,e])
     simp [Act.put,zcj,this,h1]
  have Gz:l.toArray[i]?=some o:=ho;show eH P f (ox S Q) (.inRegion l.toArray (i::_)::k) tmps w;rcases vJ with ⟨hg,vJ⟩|⟨j,want,tt,c,b,y,env',hg,hj,Zy,Zz,rfl,hE,vJ⟩
  ·have hw:Region.wanted o (yielded l.toArray tmps)=true:=by simp [Region.wanted,hg]
   rcases vJ g S.base w tmps hinv he with ⟨v,dm,w',hr,ye⟩|⟨f',args,hr,hc⟩
   ·exact eH.value Gz hw hr (next dm w' v ye)
   ·exact eH.call Gz hw hr (hc.mono λe w' ⟨v,dm,h1,h2⟩=>⟨v,h1,next dm w' v h2⟩)
  ·obtain ⟨u,hu,ZA⟩:=he tt c Zy;have hw:Region.wanted o (yielded l.toArray tmps)=b:=by
    rw [←tr Zz ZA];have JY:((l.toArray)[j]?).bind (·.dst)=some tt:=by simpa using hj
    simp only [Region.wanted,hg,yielded,JY,zac,hu];cases u <;> rfl
   cases b with
   | false=>exact eH.xX Gz hw (next g.lim w undef ⟨.gd _ _ _ (λ_=>rfl) (λh=>by cases h),.refl _ _,λ_ _=>rfl⟩)
   | true =>
    have wrap:∀ dm w' v,Good g w st y dm w' v->Good g w st (.gd true y) dm w' v:=λdm w' v ⟨a,b,c⟩=>⟨.gd _ _ _ (λh=>by cases h) (λ_=>a),b,c⟩
    rcases vJ rfl g S.base w tmps hinv (he.gd hE rfl) with ⟨v,dm,w',hr,ye⟩|⟨f',args,hr,hc⟩
    ·exact eH.value Gz hw hr (next dm w' v (wrap _ _ _ ye))
    ·exact eH.call Gz hw hr (hc.mono λe w' ⟨v,dm,h1,h2⟩=>⟨v,h1,next dm w' v (wrap _ _ _ h2)⟩)
def ve (P:Program) (f:Ctx) (N:Nat) (S:Start) (Q:EV->St->Prop) (l:List Oper) (p:Nat) (os:List Oper) (k:List Item) (env:Env) (st:St):Prop :=
 ∃ xs,Bi P N l st os xs env/\cn P f N S Q l (l.drop p) k (gG env os xs) st
variable {l:List Oper} {p:Nat} {os:List Oper} {env:Env} {st:St}
theorem ve.nil (h:cn P f N S Q l (l.drop p) k env st):ve P f N S Q l p [] k env st:=⟨[],trivial,h⟩
theorem ve.g {d:Option Tmp} {op:Op} {ty:TypeId} {pos:String} {after:Array Edge} {x:EV} (h:A3 P (na l ⟨d,op,ty,pos,after,none⟩ env) st ⟨d,op,ty,pos,after,none⟩ x) (hd:gD N d=true)
  (hk:ve P f N S Q l p os k (env.put d x) st):ve P f N S Q l p (⟨d,op,ty,pos,after,none⟩::os) k env st:=by
 obtain ⟨xs,h1,h2⟩:=hk;exact ⟨x::xs,⟨hd,.inl ⟨rfl,h⟩,h1⟩,h2⟩
theorem ve.q {d:Option Tmp} {op:Op} {ty:TypeId} {pos:String} {after:Array Edge} {x:EV} (h:aL P (na l ⟨d,op,ty,pos,after,none⟩ env) st ⟨d,op,ty,pos,after,none⟩ x) (hd:gD N d=true)
  (hk:ve P f N S Q l p os k (env.put d x) st):ve P f N S Q l p (⟨d,op,ty,pos,after,none⟩::os) k env st:=.g h.g hd hk
theorem ve.ib {d t:Tmp} {op:Op} {ty:TypeId} {pos:String} {after:Array Edge} {j:Nat} {want b:Bool} {c x:EV} {env':Env} (hj:(l[j]?).bind (·.dst)=some t)
  (hl:lookup t (na l ⟨some d,op,ty,pos,after,some (j,want)⟩ env)=some c) (hc:Dk c want=some b) (hE:zR b (na l ⟨some d,op,ty,pos,after,some (j,want)⟩ env) env') (hd:gD N (some d)=true)
  (h:b=true->A3 P env' st ⟨some d,op,ty,pos,after,some (j,want)⟩ x) (hk:ve P f N S Q l p os k ((d,.gd b x)::env) st):ve P f N S Q l p (⟨some d,op,ty,pos,after,some (j,want)⟩::os) k env st:=by
 obtain ⟨xs,h1,h2⟩:=hk;exact ⟨.gd b x::xs,⟨hd,.inr ⟨j,want,t,c,b,x,env',rfl,hj,hl,hc,rfl,hE,h⟩,h1⟩,h2⟩
theorem bt.drawn {id:Nat} (p:Nat) (hm:P.follows .mixedOrders=true) (hB:ct l p=true) (h:ve P f N S Q l p (l.take p) k env st):bt P f N S Q (.code (.region id l.toArray true)::k) env st:=by
 obtain ⟨xs,J1,Ct⟩:=h;simp only [ct,zaq] at hB;obtain ⟨⟨⟨⟨TC,YS⟩,YT⟩,YU⟩,Wj⟩:=hB;have hp:p<=l.length:=by simpa using Wj
 intro g w tmps hinv hh he hn;refine eH.Am λt=>?_
 have Q7:Region.schedule (P.follows .mixedOrders) l.toArray t=Region.linearise .any l.toArray t:=by simp [Region.schedule,hm]
 rw [Q7];have hb:Below w.heap.size w { w with drawn:=w.drawn+1 }:=(Below.refl _ w).drew;obtain ⟨dY,mA⟩:=hinv.grow (g':=g) hb (λ_ _=>rfl) rfl rfl;unfold Region.linearise;refine ME (p:=p) (xs:=xs) hp ?_ ?_ ?_ ?_ J1 Ct p _ t _ g _ tmps (by simp) ?_ ?_ ?_ ?_ dY (hh.step mA) hn λs=>⟨λj x hj yW=>?_,λ_ y hy=>?_⟩
 ·intro i j t hi hj N0 ZB uR;have:=cP (cP YS hi) hj;simp [N0,ZB,uR] at this
 ·intro i o hi ho t ht j hj mK uR;have h1:=cP TC hi;rw [ho] at h1;simp only [zaz] at h1;have h2:=cP (h1 t ht) hj;simp only [uR,zek,zdl,zbx,zaq,zaj,zeo] at h2;rcases h2 with (h2|h2)|h2
  ·exact absurd h2.symm mK
  ·exact .inl h2
  ·exact .inr h2
 ·intro i hi oM j hj;have h1:=cP YT oM;simp only [zbx,zaj] at h1;rcases h1 with h1|h1
  ·omega
  ·exact cP h1 hj
 ·intro i o ho e A1 jZ;have oM:=(zad.1 ho).1;have h1:=cP YU oM;rw [ho] at h1;simp only [zaz] at h1;have:=h1 e (by simpa using A1);simpa [jZ] using this
 ·intro i o ho QZ;simp [zas,Array.getElem?_replicate] at QZ;split at QZ <;> simp_all
 ·intro i hi oM;simp [zas,Array.getElem?_replicate,oM]
 ·have:((List.range p).filter λi=>!(Array.replicate l.toArray.size false).getD i true)=List.range p:=by
   rw [zdt];intro i hi;have hi':=List.mem_range.1 hi;have:i<l.length:=by omega
   simp [zas,Array.getElem?_replicate,this]
  rw [this];simp
 ·simp;omega
 ·simp [zas,Array.getElem?_replicate] at yW;split at yW <;> simp_all
 ·exact (he.mono mA.dB) s y hy
end drawn
theorem Wk {n:Int} (h1:-9223372036854775808<=n) (h2:n<=9223372036854775807):IntKind.i64.wrap n=n:=by
 rw [IntKind.wrap_i64];omega
def pZ (n m:Nat):EV->Bool
 | .d _=>true
 | .ref o _=>Nat.blt o n
 | .JW o _ _ _=>Nat.blt o n
 | .cY _ _ t=>Nat.blt t m
 | .mp o=>Nat.blt o n
 | .vc t _=>Nat.blt t m
 | .vp t _ _ _=>Nat.blt t m
 | .vw t _ _ _=>Nat.blt t m
 | .wv _ cs=>E3 n m cs
 | .agg cs=>E3 n m cs
 | .eF cs=>E3 n m cs
 | .gd _ x=>pZ n m x
where
 E3 (n m:Nat):List EV->Bool
 | []=>true
 | x::l=>pZ n m x && E3 n m l
theorem jj {a b:Nat} (h:Nat.blt a b=true):a<b:=zae h
theorem qS {n m:Nat}:∀ {l:List EV},pZ.E3 n m l=true->∀ (i:Nat) c,l[i]?=some c->pZ n m c=true
 | [],_,i,c,h=>by simp at h
 | x::l,ho,0,c,h=>by
  simp only [pZ.E3,zaq] at ho;simp at h;subst h;exact ho.1
 | x::l,ho,i+1,c,h=>by
  simp only [pZ.E3,zaq] at ho;exact qS ho.2 i c (by simpa using h)
theorem E4 {g:b7} {w:World} {st:St} {n m:Nat} {x:EV} {v:Value} (hn:n<=st.aQ.length) (hm:m<=st.ar.length) (ho:pZ n m x=true) (h:bK g w st x v):bK g w ⟨st.aQ.take n,st.ar.take m⟩ x v:=by
 have tJ:∀ {t:Nat} {x:iu},(st.ar.take m)[t]?=some x->st.ar[t]?=some x:=fun {t x} hx=>by
  rw [zal] at hx;split at hx;exact hx;cases hx
 induction h with
 | d x v h=>exact .d _ _ h
 | ref o off h=>exact .ref _ _ (by have:=jj ho;simp;omega)
 | JW o off l c h=>exact .JW _ _ _ _ (by have:=jj ho;simp;omega)
 | cY sz rows t v e k hd ht hk hv =>
  have:=jj ho;exact .cY sz rows t v e k hd (by simp [zal,this,ht]) hk hv
 | mp o h=>exact .mp _ (by have:=jj ho;simp;omega)
 | wv f cs vs hs h ih =>
  simp only [pZ] at ho;exact .wv f cs vs hs λi c u hc hu=>ih i c u hc hu (qS ho i c hc)
 | agg cs vs hs h1 h ih =>
  simp only [pZ] at ho;exact .agg cs vs hs h1 λi c u hc hu=>ih i c u hc hu (qS ho i c hc)
 | eF cs vs hs h ih =>
  simp only [pZ] at ho;exact .eF cs vs hs λi c u hc hu=>ih i c u hc hu (qS ho i c hc)
 | gd b x v h0 h ih =>
  simp only [pZ] at ho;exact .gd b x v h0 λhb=>ih hb ho
 | vc t k v ht hf h=>exact .vc t k v (by have:=jj ho;simp;omega) hf λx rows hx=>h x rows (tJ hx)
 | vp t k i off v ht hf h=>exact .vp t k i off v (by have:=jj ho;simp;omega) hf λx rows hx=>h x rows (tJ hx)
 | vw t k lo n v ht hf h=>exact .vw t k lo n v (by have:=jj ho;simp;omega) hf λx rows hx=>h x rows (tJ hx)
def kY (n m:Nat):dD->Bool
 | .row _ cs=>cs.all (pZ n m)
 | .map es=>es.all λp=>pZ n m p.2
 | .raw _=>true
 | .gone=>true
def Dp (n m:Nat):Env->Bool
 | []=>true
 | (_,x)::e=>pZ n m x && Dp n m e
theorem Cu {n m i:Nat} {y:EV}:∀ {env:Env},Dp n m env=true->lookup i env=some y->pZ n m y=true
 | [],_,h=>by simp [lookup] at h
 | (j,x)::e,ho,h=>by
  simp only [Dp,zaq] at ho;unfold lookup at h;cases hb:Nat.beq i j with
  | true=>rw [hb] at h;cases h;exact ho.1
  | false=>rw [hb] at h;exact Cu ho.2 h
section drop
variable {P:Program} {f:Ctx} {N:Nat} {S:Start} {Q:EV->St->Prop} {k:List Item} {todo:List Item} {env env':Env} {st st':St}
theorem Inv.drop {g:b7} {base n m:Nat} {w:World} (h:Inv g base w st) (hn:n<=st.aQ.length) (hm:m<=st.ar.length) (ho:(st.aQ.take n).all (kY n m)=true):Inv g base w ⟨st.aQ.take n,st.ar.take m⟩:=by
 have A9:∀ o x,(st.aQ.take n)[o]?=some x->st.aQ[o]?=some x:=λo x hx=>by
  rw [zal] at hx;split at hx;exact hx;cases hx
 have fc:∀ t x,(st.ar.take m)[t]?=some x->st.ar[t]?=some x:=λt x hx=>by
  rw [zal] at hx;split at hx;exact hx;cases hx
 have tO:∀ o x,(st.aQ.take n)[o]?=some x->kY n m x=true:=λo x hx=>zaz.1 ho x (zbj hx)
 have oN:∀ o,St.live ⟨st.aQ.take n,st.ar.take m⟩ o->st.live o:=λo ⟨x,hx,fi⟩=>⟨x,A9 o x hx,fi⟩
 refine ⟨h.base,λo ty cs hx=>?_,λo es hx=>?_,λo x hx=>h.raw o x (A9 o _ hx),λo o' fi h1 h2=>h.ne o o' fi (oN _ h1) (oN _ h2),λt e sz k hx=>h.tail t e sz k (fc t _ hx),λt t' x x' b fi h1 h2=>h.oH t t' x x' b fi (fc t _ h1) (fc t' _ h2),λt x o h1 h2=>h.iT t x o (fc t _ h1) (oN _ h2),h.DO,λt e sz k rows hx=>h.own t e sz k rows (fc t _ hx)⟩
 ·obtain ⟨h1,h2,vs,h3,h4,h5⟩:=h.row o ty cs (A9 o _ hx);have hc:=tO o _ hx;simp only [kY,zaz] at hc;exact ⟨h1,h2,vs,h3,h4,λi c u A2 hu=>⟨E4 hn hm (hc c (zbj A2)) (h5 i c u A2 hu).1,(h5 i c u A2 hu).2⟩⟩
 ·obtain ⟨h1,ms,c,h3,h4,h5,h6⟩:=h.map o es (A9 o _ hx);have hc:=tO o _ hx;simp only [kY,zaz] at hc;exact ⟨h1,ms,c,h3,h4,λi k x me a b=>⟨(h5 i k x me a b).1,E4 hn hm (hc _ (zbj a)) (h5 i k x me a b).2⟩,h6⟩
theorem rW.drop {S:Start} {g:b7} {w:World} {n m:Nat} (hh:rW S g w st) (YV:S.st.aQ.length<=n) (hS2:S.st.ar.length<=m) (hn:n<=st.aQ.length) (hm:m<=st.ar.length):rW S g w ⟨st.aQ.take n,st.ar.take m⟩:=by
 refine ⟨⟨hh.dB.cX,hh.dB.ob,by simp;omega,λt e sz k hk=>?_,by simp;omega,λt x' bO cJ hx ho=>?_⟩,hh.below,hh.lim,hh.frame,λb hb hw=>hh.fresh b hb ?_⟩
 ·obtain ⟨k',h1,h2⟩:=hh.dB.ar t e sz k hk;have cJ:=(zad.1 hk).1;exact ⟨k',by simp [zal,show t<m by omega,h1],h2⟩
 ·refine hh.dB.own t x' bO cJ ?_ ho;rw [zal] at hx;split at hx;exact hx;cases hx
 ·rcases hw with ⟨o,⟨x,hx,fi⟩,h2⟩|⟨t,x,hx,h2⟩
  ·refine .inl ⟨o,⟨x,?_,fi⟩,h2⟩;rw [zal] at hx;split at hx;exact hx;cases hx
  ·refine .inr ⟨t,x,?_,h2⟩;rw [zal] at hx;split at hx;exact hx;cases hx
theorem bt.to (n m:Nat) (hE:df env env') (ho:st.aQ.take n=st'.aQ) (ht:st.ar.take m=st'.ar) (hn:Nat.ble n st.aQ.length=true) (hm:Nat.ble m st.ar.length=true) (tO:(Dp n m env' && st'.aQ.all (kY n m))=true)
  (YV:S.st.aQ.length<=n) (hS2:S.st.ar.length<=m) (h:bt P f N S Q todo env' st'):bt P f N S Q todo env st:=by
 have Wl:=zae hn;have uE:=zae hm;simp only [zaq] at tO;have mA:st'=⟨st.aQ.take n,st.ar.take m⟩:=by cases st';simp at ho ht;rw [ho,ht]
 subst mA;intro g w tmps hinv hh he hN;refine h g w tmps (hinv.drop Wl uE tO.2) (hh.drop (by omega) (by omega) Wl uE) ?_ hN
 ·intro i y hy;obtain ⟨v,h1,h2⟩:=(he.sub hE) i y hy;exact ⟨v,h1,E4 Wl uE (Cu tO.1 hy) h2⟩
theorem df.nil:df env []:=trivial
theorem df.cons {i:Nat} {x y:EV} {t:Env} (h:lookup i env=some x) (hle:eG x y) (ht:df env t):df env ((i,y)::t):=⟨⟨x,h,hle⟩,ht⟩
theorem df.k2 {env t:Env} {i0 i1:Nat} {x0 x1:EV} (h0:lookup i0 env=some x0) (h1:lookup i1 env=some x1) (u:df env t):df env ((i0,x0):: (i1,x1):: t):=.cons h0 (.ak _) (.cons h1 (.ak _) u)
theorem df.k3 {env t:Env} {i0 i1 i2:Nat} {x0 x1 x2:EV} (h0:lookup i0 env=some x0) (h1:lookup i1 env=some x1) (h2:lookup i2 env=some x2) (u:df env t):df env ((i0,x0):: (i1,x1):: (i2,x2):: t):=.cons h0 (.ak _) (.cons h1 (.ak _) (.cons h2 (.ak _) u))
theorem df.k4 {env t:Env} {i0 i1 i2 i3:Nat} {x0 x1 x2 x3:EV} (h0:lookup i0 env=some x0) (h1:lookup i1 env=some x1) (h2:lookup i2 env=some x2) (h3:lookup i3 env=some x3) (u:df env t):df env ((i0,x0):: (i1,x1):: (i2,x2):: (i3,x3):: t):=.cons h0 (.ak _) (.cons h1 (.ak _) (.cons h2 (.ak _) (.cons h3 (.ak _) u)))
theorem df.k5 {env t:Env} {i0 i1 i2 i3 i4:Nat} {x0 x1 x2 x3 x4:EV} (h0:lookup i0 env=some x0) (h1:lookup i1 env=some x1) (h2:lookup i2 env=some x2) (h3:lookup i3 env=some x3) (h4:lookup i4 env=some x4) (u:df env t):df env ((i0,x0):: (i1,x1):: (i2,x2):: (i3,x3):: (i4,x4):: t):=.cons h0 (.ak _) (.cons h1 (.ak _) (.cons h2 (.ak _) (.cons h3 (.ak _) (.cons h4 (.ak _) u))))
theorem df.k6 {env t:Env} {i0 i1 i2 i3 i4 i5:Nat} {x0 x1 x2 x3 x4 x5:EV} (h0:lookup i0 env=some x0) (h1:lookup i1 env=some x1) (h2:lookup i2 env=some x2) (h3:lookup i3 env=some x3) (h4:lookup i4 env=some x4) (h5:lookup i5 env=some x5) (u:df env t):df env ((i0,x0):: (i1,x1):: (i2,x2):: (i3,x3):: (i4,x4):: (i5,x5):: t):=.cons h0 (.ak _) (.cons h1 (.ak _) (.cons h2 (.ak _) (.cons h3 (.ak _) (.cons h4 (.ak _) (.cons h5 (.ak _) u)))))
theorem df.k7 {env t:Env} {i0 i1 i2 i3 i4 i5 i6:Nat} {x0 x1 x2 x3 x4 x5 x6:EV} (h0:lookup i0 env=some x0) (h1:lookup i1 env=some x1) (h2:lookup i2 env=some x2) (h3:lookup i3 env=some x3) (h4:lookup i4 env=some x4) (h5:lookup i5 env=some x5) (h6:lookup i6 env=some x6) (u:df env t):df env ((i0,x0):: (i1,x1):: (i2,x2):: (i3,x3):: (i4,x4):: (i5,x5):: (i6,x6):: t):=.cons h0 (.ak _) (.cons h1 (.ak _) (.cons h2 (.ak _) (.cons h3 (.ak _) (.cons h4 (.ak _) (.cons h5 (.ak _) (.cons h6 (.ak _) u))))))
theorem df.k8 {env t:Env} {i0 i1 i2 i3 i4 i5 i6 i7:Nat} {x0 x1 x2 x3 x4 x5 x6 x7:EV} (h0:lookup i0 env=some x0) (h1:lookup i1 env=some x1) (h2:lookup i2 env=some x2) (h3:lookup i3 env=some x3) (h4:lookup i4 env=some x4) (h5:lookup i5 env=some x5) (h6:lookup i6 env=some x6) (h7:lookup i7 env=some x7) (u:df env t):df env ((i0,x0):: (i1,x1):: (i2,x2):: (i3,x3):: (i4,x4):: (i5,x5):: (i6,x6):: (i7,x7):: t):=.cons h0 (.ak _) (.cons h1 (.ak _) (.cons h2 (.ak _) (.cons h3 (.ak _) (.cons h4 (.ak _) (.cons h5 (.ak _) (.cons h6 (.ak _) (.cons h7 (.ak _) u)))))))
theorem df.k9 {env t:Env} {i0 i1 i2 i3 i4 i5 i6 i7 i8:Nat} {x0 x1 x2 x3 x4 x5 x6 x7 x8:EV} (h0:lookup i0 env=some x0) (h1:lookup i1 env=some x1) (h2:lookup i2 env=some x2) (h3:lookup i3 env=some x3) (h4:lookup i4 env=some x4) (h5:lookup i5 env=some x5) (h6:lookup i6 env=some x6) (h7:lookup i7 env=some x7) (h8:lookup i8 env=some x8) (u:df env t):df env ((i0,x0):: (i1,x1):: (i2,x2):: (i3,x3):: (i4,x4):: (i5,x5):: (i6,x6):: (i7,x7):: (i8,x8):: t):=.cons h0 (.ak _) (.cons h1 (.ak _) (.cons h2 (.ak _) (.cons h3 (.ak _) (.cons h4 (.ak _) (.cons h5 (.ak _) (.cons h6 (.ak _) (.cons h7 (.ak _) (.cons h8 (.ak _) u))))))))
theorem df.Bm {env t:Env} {i0 i1 i2 i3 i4 i5 i6 i7 i8 i9:Nat} {x0 x1 x2 x3 x4 x5 x6 x7 x8 x9:EV} (h0:lookup i0 env=some x0) (h1:lookup i1 env=some x1) (h2:lookup i2 env=some x2) (h3:lookup i3 env=some x3) (h4:lookup i4 env=some x4) (h5:lookup i5 env=some x5) (h6:lookup i6 env=some x6) (h7:lookup i7 env=some x7) (h8:lookup i8 env=some x8) (h9:lookup i9 env=some x9) (u:df env t):df env ((i0,x0):: (i1,x1):: (i2,x2):: (i3,x3):: (i4,x4):: (i5,x5):: (i6,x6):: (i7,x7):: (i8,x8):: (i9,x9):: t):=.cons h0 (.ak _) (.cons h1 (.ak _) (.cons h2 (.ak _) (.cons h3 (.ak _) (.cons h4 (.ak _) (.cons h5 (.ak _) (.cons h6 (.ak _) (.cons h7 (.ak _) (.cons h8 (.ak _) (.cons h9 (.ak _) u)))))))))
end drop
section enter
variable {P:Program} {f:FuncId} {fn:Func} {c:Code} {N:Nat}
theorem aF.aZ {args:List D} {q:D->Prop} (hf:P.funcs[f]?=some fn) (hb:fn.body=some c) (hN:fn.ntmps=N) (hl:Nat.ble args.length N=true)
  (h:∀ S:Start,S.st=⟨[],[]⟩->bt P (.of f) N S (QD q) [.code c] (An 0 (args.map EV.d)) ⟨[],[]⟩):aF P f args q :=
 .of (.enter hf hb hN (by simpa using hl) λS hS=>h S hS)
end enter
theorem Wm {α β:Type} {f:α->β} {l:List α} {n:Nat} (d:α) (h:n<l.length):(l.map f)[n]?=some (f (l.getD n d)):=by
 rw [zbe,zch,zaf h];rfl
section q
variable {P:Program} {base:Nat} {env:Env} {st:St} {d:Option Tmp} {ty:TypeId} {pos:String} {after:Array Edge} {gd:Option (Nat×Bool)} {t t2 e:TypeId} {x y z:Operand}
section int
variable {a b:Int} (hx:cX env x=some (.d (.ex (.int .i64 a)))) (hy:cX env y=some (.d (.ex (.int .i64 b))))
include hx hy
theorem E5 (h1:-9223372036854775808<=a+b) (h2:a+b<=9223372036854775807):aL P env st ⟨d,.binOp .add t x y t2,ty,pos,after,gd⟩ (.d (.ex (.int .i64 (a+b)))):=Zf hx hy (Wk h1 h2)
theorem Wn (h1:-9223372036854775808<=a-b) (h2:a-b<=9223372036854775807):aL P env st ⟨d,.binOp .sub t x y t2,ty,pos,after,gd⟩ (.d (.ex (.int .i64 (a-b)))):=Zg hx hy (Wk h1 h2)
end int
theorem Wo {sz n:Nat} {rows:List (List D)} {ev:EV} {k:IntKind} {i:Int} {row:List D} {inf:TypeInfo} (ht:P.underlying t=some (.slice e)) (hi:P.info? e=some inf) (fT:inf.size=sz)
  (hx:cX env x=some ev) (hs:wC ev=some (sz,rows)) (hy:cX env y=some (.d (.ex (.int k i)))) (hn:i=n) (hr:rows[n]?=some row) :
  aL P env st ⟨d,.indexAddr t x y,ty,pos,after,gd⟩ (.d (.ro row)):=λg base w tmps hinv he=>by
 subst hn;obtain ⟨b,off,c,hv,cJ,hro⟩:=Zi (tH hs (aP he hx)) hr;refine ⟨_,.d _ _ hro,λw' _=>?_⟩;have:=Cn (d:=d) (ty:=ty) (pos:=pos) (after:=after) (gd:=gd) ht hi hv (aP he hy).bN (by omega) (by omega) w';rw [zce,fT] at this;exact this
theorem Q8 {a:List UInt8} {k:IntKind} {i:Int} {n:Nat} (ht:P.underlying t=some .string) (hx:cX env x=some (.d (.ex (.string ⟨a.toArray⟩)))) (hy:cX env y=some (.d (.ex (.int k i)))) (hn:i=n) (cJ:n<a.length) :
  aL P env st ⟨d,.index t x y,ty,pos,after,gd⟩ (.d (.ex (.int .u8 ((a.getD n 0).toNat:Int)))):=by
 subst hn;exact QL ht hx hy (by omega) (by rw [zce,zch,zaf cJ];rfl)
theorem Wp {sz:Nat} {rows:List (List D)} {ev:EV} (ht:P.underlying t=some (.slice e)) (hx:cX env x=some ev) (hs:wC ev=some (sz,rows)) :
  aL P env st ⟨d,.call ⟨.builtin .len,#[x],#[t]⟩,ty,pos,after,gd⟩ (.d (.ex (.int .i64 rows.length))):=qQ λg w tmps w' he=>by
 obtain ⟨A,c,hv⟩:=Ek (tH hs (aP he hx));exact Ej ht hv w'
theorem Po {cs:List D} {n:Nat} (h1:(P.underlying t).map lT=some false) (hs:(P.info? t).map (·.size)=some n) (hx:cX env x=some (.d (.ro cs))) (hn:Nat.beq cs.length n=true) :
  aL P env st ⟨d,.load t x,ty,pos,after,gd⟩ (.d (.agg cs)):=by
 have Wl:=zav hn;have:=NP (d:=d) (ty:=ty) (pos:=pos) (after:=after) (gd:=gd) (st:=st) h1 hs (zga Wl.symm) hx
 rwa [zbw (by omega)] at this
def placesOf (P:Program) (t:TypeId):Option (List (Nat×Nat)):=match P.underlying t with
 | some (.struct fs)=>if fs.toList.all (λf=>(P.info? f.type).isSome) then some (fs.toList.map λf=>(f.offset,Kj P f.type)) else none
 | _=>none
theorem br {ps:List (Nat×Nat)} {inf:TypeInfo} {z:Value} {zs r:List D} {l:List (Nat×Operand)} (hp:placesOf P t=some ps) (hi:P.info? t=some inf) (hz:inf.zero=some z) (rZ:cellsD (.d (cv z))=some zs)
  (hl:DT (λi=>ps[i]?) env zs l=some r):aL P env st ⟨d,.build t l.toArray,ty,pos,after,gd⟩ (.d (.agg r)):=by
 unfold placesOf at hp;split at hp
 ·rename_i fs hu;split at hp
  ·rename_i l7;cases hp;refine T2 hu hi hz rZ l7 ?_;rw [←hl];congr 1;funext i;simp [placeOf]
  ·cases hp
 ·cases hp
theorem bp {sz:Nat} {inf:TypeInfo} {z:Value} {zs r:List D} {l:List (Nat×Operand)} (ht:P.underlying t=some (.slice e)) (hi:P.info? e=some inf) (fT:inf.size=sz) (hz:inf.zero=some z) (rZ:Nat.beq z.cells.size sz=true)
  (yb:Nat.ble sz 16777216=true) (Ml:Nat.blt 0 sz=true) (NX:cellsD (.d (cv z))=some zs) (hl:DT (λi=>some (i*sz,sz)) env zs l=some r) :
  A3 P env st ⟨d,.buildSlice t 1 l.toArray,ty,pos,after,gd⟩ (.d (.sl sz [r])):=by
 have GJ:=zav rZ;have Hq:=zae yb;intro g base w tmps hinv he;have Aq:=lZ (g:=g) (w:=w) (st:=st) NX (.d _ _ (qO _ _ z));have QA:zs.length=sz:=by rw [←Aq.1,GJ]
 have Wq:r.length=sz:=by
  obtain ⟨us,_,_,h3⟩:=tK he l zs z.cells r hl Aq;rw [h3,QA]
 have El:(List.replicate 1 zs).flatten=zs:=by simp
 exact Bh (len:=1) ht hi fT hz GJ (by omega) (by omega) (by rw [El,QA];omega) NX (by rw [El,hl];simp) (by simp [Wq]) rfl (jj Ml) g base w tmps hinv he
end q
theorem Inv.Pp {g:b7} {base:Nat} {w:World} {st:St} (h:Inv g base w st) (e sz:Nat) :
  ∃ g',g'.tk st.ar.length=.slice (some ⟨w.heap.size,0,none⟩) 0 0/\Inv g' base (w.alloc (.cells #[] e)) (st.tok ⟨e,sz,0,none⟩)/\Step base g w st g' (w.alloc (.cells #[] e)) (st.tok ⟨e,sz,0,none⟩):=by
 obtain ⟨g',h1,_,_,h2,h3⟩:=h.s8 ⟨e,sz,0,none⟩ (v:=.slice (some ⟨w.heap.size,0,none⟩) 0 0) (xs:=[]) ⟨by simp,.inr ⟨w.heap.size,0,#[],rfl,h.base,heap_alloc_new w _,zar _,by simp [maxLen],by simp,by simp⟩⟩
  (.inr ⟨rfl,(Below.refl _ w).alloc (zar _) _⟩) (λrows hh=>by cases hh)
 exact ⟨g',h1,h2,h3⟩
section rules
variable {P:Program} {base:Nat} {env:Env} {st:St} {d:Option Tmp} {ty:TypeId} {pos:String} {after:Array Edge} {gd:Option (Nat×Bool)} {t t2 e:TypeId} {x y z:Operand}
theorem Pq {inf:TypeInfo} {sz:Nat} (ht:P.underlying t=some (.slice e)) (hi:P.info? e=some inf) (fT:inf.size=sz) :
  xY P base env st ⟨d,.buildSlice t 0 #[],ty,pos,after,gd⟩ (.cY sz [] st.ar.length) (st.tok ⟨e,sz,0,none⟩):=by
 intro g w tmps hinv he;obtain ⟨g',h1,h2,h3⟩:=hinv.Pp e sz;refine ⟨_,g',_,?_,.cY sz [] _ (.slice (some ⟨w.heap.size,0,none⟩) 0 0) e 0 (.sl sz [] _ 0 0 (zar _) (by simp) (by simp) (by simp)) (by simp [St.tok]) (zar _) (λ_=>.inl h1.symm),h2,h3⟩;simp [execOp,Instr.buildSlice,run_underlying ht,pX hi,newRow,Instr.fill];rw [show Array.map (λ_=>(default:Value)) (Array.range 0)=#[] from by simp [Array.range_zero']]
end rules
def nth {α:Type} [Inhabited α] (l:List α) (k:Nat):α:=l.getD k default
theorem l8 {α:Type} [Inhabited α] {l:List α} {k:Nat} (h:k<l.length):nth l k=l[k]:=by
 unfold nth;rw [zch,zaf h];rfl
theorem Cv {α β:Type} [Inhabited α] {f:α->β} {l:List α} {n:Nat} (h:n<l.length):(l.map f)[n]?=some (f (nth l n)):=Wm default h
theorem mi {α:Type} [Inhabited α] {l:List α} {k:Nat} (h:k<l.length):l.take (k+1)=l.take k++[nth l k]:=by
 rw [l8 h,List.take_succ_eq_append_getElem h]
theorem p7 {α:Type} [Inhabited α] {l:List α} {k:Nat} (h:k<l.length):l.drop k=nth l k::l.drop (k+1):=by
 rw [l8 h];exact List.drop_eq_getElem_cons h
abbrev cI (n:Int):D:=.ex (.int .i64 n)
abbrev cS (l:List UInt8):D:=.ex (.string ⟨l.toArray⟩)
abbrev cB (b:Bool):D:=.ex (.bool b)
def rI (n:Int):List D:=[.ex (.int .i64 n)]
def rS (l:List UInt8):List D:=[.ex (.string ⟨l.toArray⟩)]
abbrev aj {α:Type} (sz:Nat) (row:α->List D) (l:List α):D:=.sl sz (l.map row)
structure Bn (P:Program) (key:TypeId) (κ:Type) [BEq κ] [LawfulBEq κ] where
 ke:κ->Value
 kd:TypeDesc
 und:P.underlying key=some kd
 same:∀ a b,Instr.sameNow kd (ke a) (ke b)=some (a==b)
 bits:∀ a,Instr.sameBits 10000 (ke a) (ke a)=true
 check:∀ a b w,(Instr.checkKey b 10000 key (ke a)).run P w=.ok () w
def T4 {P:Program} {key:TypeId} (h:P.underlying key=some (.int .i64)):Bn P key Int where
 ke n:=.int .i64 n
 kd:=.int .i64
 und:=h
 same a b:=by simp [Instr.sameNow]
 bits a:=by simp [Instr.sameBits]
 check a b w:=by
  have:∀ n,(Instr.checkKey b (n+1) key (.int .i64 a)).run P w=.ok () w:=λn=>by simp [Instr.checkKey,run_underlying h]
  exact this 9999
def strKeys {P:Program} {key:TypeId} (h:P.underlying key=some .string):Bn P key (List UInt8) where
 ke s:=.string ⟨s.toArray⟩
 kd:=.string
 und:=h
 same a b:=by
  simp only [Instr.sameNow];rw [beq_toListBytes];simp
 bits a:=by
  simp only [Instr.sameBits];rw [beq_toListBytes];simp
 check a b w:=by
  have:∀ n,(Instr.checkKey b (n+1) key (.string ⟨a.toArray⟩)).run P w=.ok () w:=λn=>by simp [Instr.checkKey,run_underlying h]
  exact this 9999
section alist
variable {κ α:Type} [BEq κ] [LawfulBEq κ]
def eb (l:List (κ×α)) (k:κ):Option Nat:=l.findIdx? λp=>k==p.1
def aC (l:List (κ×α)) (k:κ):Option α:=(l.find? λp=>k==p.1).map (·.2)
def c8 (l:List (κ×α)) (k:κ) (v:α):List (κ×α):=match eb l k with
 | some j=>l.set j (k,v)
 | none=>l++[(k,v)]
theorem vK (k:κ):aC ([]:List (κ×α)) k=none:=rfl
theorem nf (l:List (κ×α)) (k:κ):aC l k=(eb l k).bind λj=>(l[j]?).map (·.2):=by
 induction l with
 | nil=>rfl
 | cons p l ih =>
  unfold aC eb at *;rw [List.find?_cons,List.findIdx?_cons];by_cases h:k==p.1
  ·simp [h]
  ·simp only [h,zay,zbs] at *;rw [ih];cases List.findIdx? (λp=>k==p.fst) l <;> simp
theorem dW (l:List (κ×α)) (k k':κ) (v:α):aC (c8 l k v) k'=if k'==k then some v else aC l k':=by
 induction l with
 | nil =>
  unfold c8 eb aC;by_cases h:k'==k <;> simp [List.find?_cons,h]
 | cons p l ih =>
  unfold c8 eb at *;rw [List.findIdx?_cons];by_cases h:k==p.1
  ·simp only [h,zbt,List.set_cons_zero];have hk:k=p.1:=eq_of_beq h;unfold aC;rw [List.find?_cons,List.find?_cons];by_cases h':k'==k
   ·simp [h']
   ·have:(k'==p.1)=false:=by rw [←hk];simpa using h'
    simp [h',this]
  ·simp only [h,zay,zbs];have ZC:aC ((match Option.map (λx=>x+1) (List.findIdx? (λp=>k==p.1) l) with
     | some j=>(p::l).set j (k,v)
     | none=>(p::l)++[(k,v)])) k'=if k'==p.1 then some p.2 else aC (match List.findIdx? (λp=>k==p.1) l with
     | some j=>l.set j (k,v)
     | none=>l++[(k,v)]) k':=by
    cases List.findIdx? (λp=>k==p.1) l with
    | none =>
     simp only [Option.map_none,List.cons_append];unfold aC;rw [List.find?_cons];by_cases h2:k'==p.1 <;> simp [h2]
    | some j =>
     simp only [Option.map_some,List.set_cons_succ];unfold aC;rw [List.find?_cons];by_cases h2:k'==p.1 <;> simp [h2]
   refine ZC.trans ?_;rw [ih];by_cases h2:k'==p.1
   ·have hk:k'=p.1:=eq_of_beq h2;have h3:(k'==k)=false:=by
     rw [hk];rw [zez];intro he;exact h (by rw [eq_of_beq he];simp)
    simp [h2,h3,aC,List.find?_cons]
   ·by_cases h3:k'==k
    ·simp [h2,h3]
    ·simp [h2,h3,aC,List.find?_cons]
end alist
def kt {κ α:Type} (ke:κ->Value) (val:α->D) (l:List (κ×α)):List (Value×EV):=l.map λp=>(ke p.1,.d (val p.2))
section find
variable {P:Program} {key:TypeId} {κ α:Type} [BEq κ] [LawfulBEq κ] (K:Bn P key κ)
theorem E6 (k:κ):∀ (l:List (κ×α)) (ms:List MapEntry) (i:Nat),ms.map (·.key)=l.map (λp=>K.ke p.1) ->
  Instr.findNow K.kd (K.ke k) ms i=some ((eb l k).bind λj=>(ms[j]?).map λm=>(i+j,m.val))
 | [],[],i,_=>rfl
 | [],m::ms,i,h=>by simp at h
 | p::l,[],i,h=>by simp at h
 | p::l,m::ms,i,h=>by
  simp only [zap,List.cons.injEq] at h;unfold Instr.findNow;rw [h.1,K.same];by_cases hk:k==p.1
  ·simp [hk,eb,List.findIdx?_cons]
  ·have TU:(k==p.1)=false:=by simpa using hk
   rw [TU];simp only [];rw [E6 k l ms (i+1) h.2];unfold eb;rw [List.findIdx?_cons,TU];simp only [zay,zbs];cases List.findIdx? (λp=>k==p.1) l with
   | none=>rfl
   | some j =>
    simp only [zac,Option.map_some,List.getElem?_cons_succ];congr 2;funext m;congr 1;omega
theorem Kp (k:κ) {l:List (κ×α)} {ms:List MapEntry} (h:ms.map (·.key)=l.map (λp=>K.ke p.1)) (w:World) :
  (Instr.findKey key (K.ke k) ms).run P w=.ok ((eb l k).bind λj=>(ms[j]?).map λm=>(j,m.val)) w:=by
 simp only [Instr.findKey,Sem.run_bind,run_underlying K.und,Result.andThen_ok,E6 K k l ms 0 h,Sem.run_pure,zca]
end find
theorem yf {κ α:Type} [BEq κ] {l:List (κ×α)} {k:κ} {j:Nat} (h:eb l k=some j):j<l.length:=by
 unfold eb at h;rw [List.findIdx?_eq_some_iff_getElem] at h;exact h.1
section rules
variable {P:Program} {base:Nat} {env:Env} {st:St} {d:Option Tmp} {ty:TypeId} {pos:String} {after:Array Edge} {gd:Option (Nat×Bool)} {t t2 e key:TypeId} {x y z:Operand}
 {κ α:Type} [BEq κ] [LawfulBEq κ]
theorem Q9 {g:b7} {w:World} {st:St} {l:List (κ×α)} {ke:κ->Value} {val:α->D} {ms:Array MapEntry} (hl:ms.size=(kt ke val l).length)
  (h:∀ (i:Nat) k x (m:MapEntry),(kt ke val l)[i]?=some (k,x)->ms[i]?=some m->m.key=k/\bK g w st x m.val):ms.toList.map (·.key)=l.map λp=>ke p.1:=by
 apply zcm;intro i;rw [zbe,zbe];have hlen:ms.size=l.length:=by simpa [kt] using hl
 by_cases hi:i<l.length
 ·have h1:ms[i]?=some (ms[i]'(by omega)):=zbi (by omega);have h2:l[i]?=some l[i]:=zaf hi;have h3:=(h i (ke l[i].1) (.d (val l[i].2)) _ (by simp [kt,h2]) h1).1;rw [h2,zcl,h1];simp [h3]
 ·rw [zbp (by simp;omega),zbp (by omega)];rfl
theorem iw:xY P base env st ⟨d,.makeMap t none,ty,pos,after,gd⟩ (.mp st.aQ.length) (st.add (.map [])):=by
 intro g w tmps hinv he;obtain ⟨g',hi,hs,A9⟩:=hinv.newObj (.map []) (.map #[] 0) (λMy DR e=>by cases e) (λes e=>by cases e;exact ⟨rfl,rfl⟩);refine ⟨.map (some w.heap.size),g',_,?_,?_,hi,hs⟩
 ·simp [execOp,Instr.makeMap]
 ·rw [←A9];exact .mp _ (by simp [St.add])
end rules
inductive FK where
 | i (k:IntKind)
 | b
 | s
def GK:Option TypeDesc->Option FK
 | some (.int k)=>some (.i k)
 | some .bool=>some .b
 | some .string=>some .s
 | _=>none
def qT:FK->Value->Bool
 | .i k,.int k' _=>decide (k=k')
 | .b,.bool _=>true
 | .s,.string _=>true
 | _,_=>false
def Mm:Value->Value->Bool
 | .int _ a,.int _ b=>a==b
 | .bool a,.bool b=>a==b
 | .string a,.string b=>a.toList==b.toList
 | _,_=>false
def dO:List Value->List Value->Bool
 | [],[]=>true
 | x::xs,y::ys=>Mm x y && dO xs ys
 | _,_=>false
def fitAll:List FK->List Value->Bool
 | [],[]=>true
 | k::ks,v::vs=>qT k v && fitAll ks vs
 | _,_=>false
def r7 (P:Program):Nat->List Field->Option (List FK)
 | _,[]=>some []
 | n,f::fs=>match Nat.beq f.offset n,decide (f.name ≠ "_"),GK (P.underlying f.type),r7 P (n+1) fs with
  | true,true,some k,some ks=>some (k::ks)
  | _,_,_,_=>none
def iy (P:Program) (t:TypeId):Option (List FK):=match P.underlying t with
 | some (.struct fs)=>if P.stoodInHeld t || P.eqGuardType P.depth t then none else r7 P 0 fs.toList
 | _=>none
section eq
variable {P:Program}
theorem vL {t:TypeId} {k:FK} (h:GK (P.underlying t)=some k) {cs:Array Value} {off:Nat} {v:Value} (hv:cs[off]?=some v) (w:World):(part t cs off).run P w=.ok v w:=by
 have h1:(P.underlying t).map lT=some true:=by
  cases hd:P.underlying t with
  | none=>rw [hd] at h;cases h
  | some Mu=>rw [hd] at h;cases Mu <;> first|rfl|cases h
 simp [part,vE h1,hv]
theorem yg {t:TypeId} {k:FK} (h:GK (P.underlying t)=some k) {x y:Value} (hx:qT k x=true) (hy:qT k y=true) (n:Nat) (w:World):(Op.equalIn (n+1) t x y).run P w=.ok (Mm x y) w:=by
 cases hd:P.underlying t with
 | none=>rw [hd] at h;cases h
 | some Mu =>
  rw [hd] at h;cases Mu <;> simp only [GK,Option.some.injEq,reduceCtorEq] at h
  ·subst h;cases x <;> simp only [qT,zay] at hx;cases y <;> simp only [qT,zay] at hy;exact run_equalIn_bool' w n t _ _ hd
  ·subst h;cases x <;> simp only [qT,zay] at hx;cases y <;> simp only [qT,zay] at hy;have e1:=zcs hx;have e2:=zcs hy;rw [←e1,←e2];exact run_equalIn_int w n t _ _ _ _ hd
  ·subst h;cases x <;> simp only [qT,zay] at hx;cases y <;> simp only [qT,zay] at hy;exact run_equalIn_string w n t _ _ hd
theorem zT (n:Nat) (w:World):∀ (fs:List Field) (k:Nat) (ks:List FK) (xs ys:List Value) (X Y:Array Value),r7 P k fs=some ks->fitAll ks xs=true->fitAll ks ys=true ->
  (∀ (j:Nat) v,xs[j]?=some v->X[k+j]?=some v)->(∀ (j:Nat) v,ys[j]?=some v->Y[k+j]?=some v)->(Op.eqFields (n+1) X Y fs).run P w=.ok (dO xs ys) w
 | [],k,ks,xs,ys,X,Y,h,hx,hy,_,_=>by
  simp only [r7,Option.some.injEq] at h;subst h
  match xs,ys with
  | [],[]=>rfl
  | _::_,_=>cases hx
  | [],_::_=>cases hy
 | f::fs,k,ks,xs,ys,X,Y,h,hx,hy,hX,hY=>by
  unfold r7 at h;split at h
  ·rename_i kk ZD h1 h2 h3 h4;simp only [Option.some.injEq] at h;subst h
   match xs,ys with
   | [],_=>cases hx
   | _::_,[]=>cases hy
   | x::xs,y::ys =>
    simp only [fitAll,zaq] at hx hy;have ho:=zav h1;have Kr:f.name ≠ "_" := zcs h2;have px:=vL h3 (cs:=X) (off:=f.offset) (hX 0 x rfl |> λh=>by rw [ho];simpa using h) w;have py:=vL h3 (cs:=Y) (off:=f.offset) (hY 0 y rfl |> λh=>by rw [ho];simpa using h) w;have pe:=yg h3 hx.1 hy.1 n w;have ih:=zT n w fs (k+1) ZD xs ys X Y h4 hx.2 hy.2 (λj v hv=>by have:=hX (j+1) v (by simpa using hv);rwa [show k+1+j=k+(j+1) by omega]) (λj v hv=>by have:=hY (j+1) v (by simpa using hv);rwa [show k+1+j=k+(j+1) by omega]);simp only [Op.eqFields,zaa Kr,Sem.run_bind,px,py,pe,Result.andThen_ok,Sem.run_ite,dO];cases Mm x y
    ·rfl
    ·simpa using ih
  ·cases h
theorem Iv {t:TypeId} {ks:List FK} (h:iy P t=some ks) {xs ys:List Value} (hx:fitAll ks xs=true) (hy:fitAll ks ys=true) (w:World) (op:BinOp) (x y:Operand) :
  (eqGuard op t x y (.agg xs.toArray) (.agg ys.toArray)).run P w=.ok () w/\(Op.equalIn 10000 t (.agg xs.toArray) (.agg ys.toArray)).run P w=.ok (dO xs ys) w:=by
 unfold iy at h;split at h
 ·rename_i fs hu;split at h
  ·cases h
  ·rename_i NZ;simp only [zbx,not_or,Bool.not_eq_true] at NZ;have T3:P.fieldsOf t=fs:=by simp [Program.fieldsOf,hu]
   refine ⟨run_eqGuard_agg w op t x y _ _ NZ.2,?_⟩;rw [run_equalIn_struct w 9999 t _ _ (by rw [T3];exact hu) NZ.1,T3];exact zT 9998 w fs.toList 0 ks xs ys _ _ h hx hy (λj v hv=>by simpa using hv) (λj v hv=>by simpa using hv)
 ·cases h
end eq
theorem wJ {lim:Nat->Nat} {w:World} {u v:Value} (h:dA lim w (.ex u) v):v=u:=by cases h;rfl
def TD:List D->Option (List Value)
 | []=>some []
 | .ex v::l=>match TD l with
  | some r=>some (v::r)
  | none=>none
 | _::_=>none
theorem Iw:∀ {l:List D} {vs:List Value},TD l=some vs->l=vs.map D.ex
 | [],vs,h=>by simp [TD] at h;subst h;rfl
 | .ex v::l,vs,h=>by
  unfold TD at h;split at h
  ·rename_i r hr;simp only [Option.some.injEq] at h;subst h;rw [Iw hr];rfl
  ·cases h
 | .agg _::l,vs,h=>by cases h
 | .eF _::l,vs,h=>by cases h
 | .sl _ _::l,vs,h=>by cases h
 | .ro _::l,vs,h=>by cases h
 | .e0 _::l,vs,h=>by cases h
 | .any::l,vs,h=>by cases h
theorem tu {lim:Nat->Nat} {w:World} {cs:List D} {vs:List Value} {v:Value} (h:TD cs=some vs) (hr:dA lim w (.agg cs) v):v=.agg vs.toArray:=by
 have hm:=Iw h;subst hm;cases hr with
 | agg _ us hs _ hc =>
  congr 1;apply Array.ext';apply zcm;intro i;simp only [zdc] at hs;by_cases hi:i<vs.length
  ·have h1:us[i]?=some (us[i]'(by omega)):=zbi (by omega);have h2:=hc i (.ex vs[i]) _ (by rw [zbe,zaf hi];rfl) h1;rw [zcl,h1,zaf hi,wJ h2]
  ·rw [zbp (by simp;omega),zbp (by simp;omega)]
section rules
variable {P:Program} {f:Ctx} {N:Nat} {S:Start} {Q:EV->St->Prop} {k:List Item} {base:Nat} {env:Env} {st:St} {ops rest:List Oper} {d:Option Tmp} {ty:TypeId} {pos:String} {after:Array Edge} {gd:Option (Nat×Bool)} {t t2 e:TypeId} {x y z:Operand}
section steq
variable {ks:List FK} {cs ds:List D} {xs ys:List Value} (hk:iy P t=some ks) (hx:cX env x=some (.d (.agg cs))) (hy:cX env y=some (.d (.agg ds))) (h1:TD cs=some xs) (h2:TD ds=some ys) (h3:fitAll ks xs=true) (h4:fitAll ks ys=true)
include hk hx hy h1 h2 h3 h4
theorem Ix:aL P env st ⟨d,.binOp .eql t x y t2,ty,pos,after,gd⟩ (.d (.ex (.bool (dO xs ys)))):=qQ λg w tmps w' he=>by
 obtain ⟨k1,k2⟩:=Iv hk h3 h4 w' .eql x y;have e1:Act.eval ⟨tmps,[]⟩ x=.agg xs.toArray:=by cases aP he hx with|d _ _ h=>exact tu h1 h
 have e2:Act.eval ⟨tmps,[]⟩ y=.agg ys.toArray:=by cases aP he hy with|d _ _ h=>exact tu h2 h
 simp only [execOp,e1,e2,Sem.run_bind,k1,Result.andThen_ok,run_eql_struct,k2,Sem.run_pure]
theorem rF:aL P env st ⟨d,.binOp .neq t x y t2,ty,pos,after,gd⟩ (.d (.ex (.bool (!dO xs ys)))):=qQ λg w tmps w' he=>by
 obtain ⟨k1,k2⟩:=Iv hk h3 h4 w' .neq x y;have e1:Act.eval ⟨tmps,[]⟩ x=.agg xs.toArray:=by cases aP he hx with|d _ _ h=>exact tu h1 h
 have e2:Act.eval ⟨tmps,[]⟩ y=.agg ys.toArray:=by cases aP he hy with|d _ _ h=>exact tu h2 h
 simp only [execOp,e1,e2,Sem.run_bind,k1,Result.andThen_ok,run_neq_struct,k2,Sem.run_pure]
end steq
theorem tP {f':FuncId} {l:List Operand} {es:List EV} (h:Co env l=some es):aL P env st ⟨d,.makeFunc (.func f') #[] l.toArray,ty,pos,after,gd⟩ (.wv f' es):=by
 intro g base w tmps hinv he;obtain ⟨k1,k2⟩:=vF he l es h;refine ⟨.func (.func f') #[] (l.map (Act.eval ⟨tmps,[]⟩)).toArray,.wv f' es _ (by simp [k1]) (λi c u hc hu=>k2 i c u hc (by simpa using hu)),λw' _=>?_⟩;simp [execOp,Instr.makeFunc]
theorem oO {o off n m sz:Nat} {k:IntKind} {i:Int} (ht:P.underlying t=some (.array n e)) (hi:∃ inf,P.info? e=some inf/\inf.size=sz) (hx:cX env x=some (.ref o off)) (hy:cX env y=some (.d (.ex (.int k i)))) (hm:i=m) (cJ:m<n) :
  aL P env st ⟨d,.indexAddr t x y,ty,pos,after,gd⟩ (.ref o (off+m*sz)):=λg base w tmps hinv he=>by
 subst hm;obtain ⟨inf,hi,rfl⟩:=hi;have h:=aP he hx;generalize hv:Act.eval ⟨tmps,[]⟩ x=v at h;have Ra:=(aP he hy).bN;cases h with
 | ref _ _ j0 =>
  refine ⟨.pointer (some ⟨g.ob o,off+m*inf.size,none⟩),.ref _ _ j0,λw' _=>?_⟩;simp [execOp,hv,Ra,Instr.indexAt,asIntOf,run_underlying ht,Instr.sureAddr,sizeOf,typeInfo,hi,cJ,Addr.add_lit]
end rules
section rules
variable {P:Program} {f:Ctx} {N:Nat} {S:Start} {Q:EV->St->Prop} {k:List Item} {base:Nat} {env:Env} {st:St} {ops rest:List Oper} {d:Option Tmp} {ty:TypeId} {pos:String} {after:Array Edge} {gd:Option (Nat×Bool)} {t t2 e:TypeId} {x y z:Operand}
theorem Rb {n m:Nat} {inf:TypeInfo} {cs:List D} {c:D} {k:IntKind} {i:Int} (ht:P.underlying t=some (.array n e)) (h1:(P.underlying e).map lT=some true) (hi:P.info? e=some inf) (hs:inf.size=1)
  (hx:cX env x=some (.d (.agg cs))) (hy:cX env y=some (.d (.ex (.int k i)))) (hm:i=m) (cJ:m<n) (hc:cs[m]?=some c) :
  aL P env st ⟨d,.index t x y,ty,pos,after,gd⟩ (.d c):=λg base w tmps hinv he=>by
 subst hm;have h:=aP he hx;generalize hv:Act.eval ⟨tmps,[]⟩ x=v at h;have Ra:=(aP he hy).bN;cases h with
 | d _ _ h =>
  cases h with
  | agg _ us fT h1c sF =>
   have j0:m<us.size:=by rw [fT];exact (zad.1 hc).1
   have hu:us[m]?=some us[m]:=zbi j0;refine ⟨us[m],.d _ _ (sF m c _ hc hu),λw' hb=>?_⟩;have hag:=vE (P:=P) h1 w';simp [execOp,hv,Ra,Instr.index,asIntOf,run_underlying ht,sizeOf,typeInfo,hi,hs,cJ,part,hag,j0]
theorem pD {n sz:Nat} {inf ie:TypeInfo} {z:Value} {zs r:List D} {l:List (Nat×Operand)} (ht:P.underlying t=some (.array n e)) (hi:P.info? t=some inf) (hz:inf.zero=some z) (hie:P.info? e=some ie) (Pr:ie.size=sz) (rZ:cellsD (.d (cv z))=some zs)
  (hl:DT (λi=>some (i*sz,sz)) env zs l=some r):aL P env st ⟨d,.build t l.toArray,ty,pos,after,gd⟩ (.d (.agg r)):=by
 intro g base w tmps hinv he;have Aq:=lZ (g:=g) (w:=w) (st:=st) rZ (.d _ _ (qO _ _ z));obtain ⟨us,h1,h2,h3⟩:=tK he l zs z.cells r hl Aq;refine ⟨.agg us,.d _ _ (.agg r us h2.1 (λi u hu=>?_) λi c u hc hu=>(h2.2 i c u hc hu).1),λw' hb=>?_⟩
 ·have hi':i<r.length:=by rw [←h2.1];exact (zau.1 hu).1
  exact (h2.2 i _ u (zaf hi') hu).2
 ·subst Pr;have hso:(sizeOf e:Sem Nat).run P w'=.ok ie.size w':=by simp [sizeOf,typeInfo,hie]
  simp only [execOp,Instr.build,Sem.run_bind,tL hi hz,Result.andThen_ok,run_underlying ht,zep,hso];rw [h1];simp
def uB (x y:D):Prop:=∀ lim w v,dA lim w x v->dA lim w y v
theorem uB.ak (x:D):uB x x:=λ_ _ _ h=>h
theorem uB.nil (sz:Nat):uB (.ex (.slice none 0 0)) (.sl sz []):=λ_ _ _ h=>by cases h;exact .nil sz _
def GM:List D->List D->Prop
 | [],[]=>True
 | x::xs,y::ys=>uB x y/\GM xs ys
 | _,_=>False
theorem GM.get:∀ {xs ys:List D},GM xs ys->xs.length=ys.length/\∀ (i:Nat) y,ys[i]?=some y->∃ x,xs[i]?=some x/\uB x y
 | [],[],_=>⟨rfl,λi y h=>by simp at h⟩
 | x::xs,y::ys,h=>by
  obtain ⟨h1,h2⟩:=GM.get h.2;refine ⟨by simp [h1],λi z hz=>?_⟩;cases i with
  | zero=>simp at hz;subst hz;exact ⟨x,rfl,h.1⟩
  | succ i=>simpa using h2 i z (by simpa using hz)
 | [],_::_,h=>h.elim
 | _::_,[],h=>h.elim
theorem uB.agg {xs ys:List D} (h:GM xs ys):uB (.agg xs) (.agg ys):=by
 intro lim w v hv;obtain ⟨h1,h2⟩:=h.get;cases hv with
 | agg _ vs hs ho hc =>
  refine .agg _ vs (by rw [hs,h1]) ho λi c u hi hu=>?_
  obtain ⟨x,hx,hle⟩:=h2 i c hi;exact hle lim w u (hc i x u hx hu)
def Ks:List (List D)->List (List D)->Prop
 | [],[]=>True
 | x::xs,y::ys=>GM x y/\Ks xs ys
 | _,_=>False
theorem Ks.get:∀ {xs ys:List (List D)},Ks xs ys->xs.length=ys.length/\∀ (i:Nat) y,ys[i]?=some y->∃ x,xs[i]?=some x/\GM x y
 | [],[],_=>⟨rfl,λi y h=>by simp at h⟩
 | x::xs,y::ys,h=>by
  obtain ⟨h1,h2⟩:=Ks.get h.2;refine ⟨by simp [h1],λi z hz=>?_⟩;cases i with
  | zero=>simp at hz;subst hz;exact ⟨x,rfl,h.1⟩
  | succ i=>simpa using h2 i z (by simpa using hz)
 | [],_::_,h=>h.elim
 | _::_,[],h=>h.elim
theorem uB.sl {sz:Nat} {xs ys:List (List D)} (h:Ks xs ys):uB (.sl sz xs) (.sl sz ys):=by
 intro lim w v hv;obtain ⟨h1,h2⟩:=h.get;cases hv with
 | nil =>
  have:ys=[]:=zbc (by rw [←h1];rfl);subst this;exact .nil sz _
 | sl _ _ b off cap hc hr hx hh =>
  rw [h1];refine .sl sz ys b off cap (by rw [←h1];exact hc) (λrow rX=>?_) (λk hk=>hx k (by rw [h1];exact hk)) λi j row c u hi hj hu=>?_
  ·obtain ⟨i,hi⟩:=zdg.1 rX;obtain ⟨x,kq,hle⟩:=h2 i row hi;rw [←hle.get.1];exact hr x (zbj kq)
  ·obtain ⟨x,kq,hle⟩:=h2 i row hi;obtain ⟨d,hd,hl⟩:=hle.get.2 j c hj;exact hl lim w u (hh i j x d u kq hd hu)
theorem aF.le {f:FuncId} {xs ys:List D} {q:D->Prop} (h:aF P f ys q) (hle:GM xs ys):aF P f xs q:=by
 intro lim w vs hg ha;obtain ⟨h1,h2⟩:=hle.get;refine h lim w vs hg ⟨by rw [ha.1,h1],λi y v hy hv=>?_⟩;obtain ⟨x,hx,hl⟩:=h2 i y hy;exact hl lim w v (ha.2 i x v hx hv)
end rules
def ck {α:Type} (p:Prop) [Decidable p] (k:Option α):Option α:=if p then k else none
theorem au {α:Type} {p:Prop} [Decidable p] {k:Option α} {r:α} (h:ck p k=some r):p/\k=some r:=by
 unfold ck at h;split at h
 ·exact ⟨by assumption,h⟩
 ·cases h
theorem ck2 {α:Type} {p0 p1:Prop} [Decidable p0] [Decidable p1] {x:Option α} {r:α} (h:ck p0 (ck p1 x)=some r):p0/\p1/\x=some r:=by
 obtain ⟨h0,h⟩:=au h;obtain ⟨h1,h⟩:=au h;exact ⟨h0,h1,h⟩
theorem ck3 {α:Type} {p0 p1 p2:Prop} [Decidable p0] [Decidable p1] [Decidable p2] {x:Option α} {r:α} (h:ck p0 (ck p1 (ck p2 x))=some r):p0/\p1/\p2/\x=some r:=by
 obtain ⟨h0,h⟩:=au h;obtain ⟨h1,h⟩:=au h;obtain ⟨h2,h⟩:=au h;exact ⟨h0,h1,h2,h⟩
theorem ck4 {α:Type} {p0 p1 p2 p3:Prop} [Decidable p0] [Decidable p1] [Decidable p2] [Decidable p3] {x:Option α} {r:α} (h:ck p0 (ck p1 (ck p2 (ck p3 x)))=some r):p0/\p1/\p2/\p3/\x=some r:=by
 obtain ⟨h0,h⟩:=au h;obtain ⟨h1,h⟩:=au h;obtain ⟨h2,h⟩:=au h;obtain ⟨h3,h⟩:=au h;exact ⟨h0,h1,h2,h3,h⟩
theorem ck5 {α:Type} {p0 p1 p2 p3 p4:Prop} [Decidable p0] [Decidable p1] [Decidable p2] [Decidable p3] [Decidable p4] {x:Option α} {r:α} (h:ck p0 (ck p1 (ck p2 (ck p3 (ck p4 x))))=some r):p0/\p1/\p2/\p3/\p4/\x=some r:=by
 obtain ⟨h0,h⟩:=au h;obtain ⟨h1,h⟩:=au h;obtain ⟨h2,h⟩:=au h;obtain ⟨h3,h⟩:=au h;obtain ⟨h4,h⟩:=au h;exact ⟨h0,h1,h2,h3,h4,h⟩
theorem ck6 {α:Type} {p0 p1 p2 p3 p4 p5:Prop} [Decidable p0] [Decidable p1] [Decidable p2] [Decidable p3] [Decidable p4] [Decidable p5] {x:Option α} {r:α} (h:ck p0 (ck p1 (ck p2 (ck p3 (ck p4 (ck p5 x)))))=some r):p0/\p1/\p2/\p3/\p4/\p5/\x=some r:=by
 obtain ⟨h0,h⟩:=au h;obtain ⟨h1,h⟩:=au h;obtain ⟨h2,h⟩:=au h;obtain ⟨h3,h⟩:=au h;obtain ⟨h4,h⟩:=au h;obtain ⟨h5,h⟩:=au h;exact ⟨h0,h1,h2,h3,h4,h5,h⟩
theorem ck7 {α:Type} {p0 p1 p2 p3 p4 p5 p6:Prop} [Decidable p0] [Decidable p1] [Decidable p2] [Decidable p3] [Decidable p4] [Decidable p5] [Decidable p6] {x:Option α} {r:α} (h:ck p0 (ck p1 (ck p2 (ck p3 (ck p4 (ck p5 (ck p6 x))))))=some r):p0/\p1/\p2/\p3/\p4/\p5/\p6/\x=some r:=by
 obtain ⟨h0,h⟩:=au h;obtain ⟨h1,h⟩:=au h;obtain ⟨h2,h⟩:=au h;obtain ⟨h3,h⟩:=au h;obtain ⟨h4,h⟩:=au h;obtain ⟨h5,h⟩:=au h;obtain ⟨h6,h⟩:=au h;exact ⟨h0,h1,h2,h3,h4,h5,h6,h⟩
abbrev cV (x:Int):Prop:=-9223372036854775808<=x/\x<=9223372036854775807
theorem af {α:Type} {p:Prop} [Decidable p] {k:Option α} (h:p):ck p k=k:=zaa h
def bH {α:Type} [Inhabited α] (b:Bool) (o:Option α):Option α:=if b=true then o else some default
theorem aO {α:Type} [Inhabited α] {b:Bool} {o:Option α} {y:α} (h:bH b o=some y):b=true->o=some y:=λhb=>by
 rw [bH,zaa hb] at h;exact h
theorem ae {α β:Type} {o:Option α} {k:α->Option β} {r:β} (h:o.bind k=some r):∃ y,o=some y/\k y=some r:=by
 cases o with
 | none=>cases h
 | some y=>exact ⟨y,rfl,h⟩
theorem ca {α β:Type} {o:Option α} {k:α->β} {r:β} (h:o.map k=some r):∃ y,o=some y/\k y=r:=by
 cases o with
 | none=>cases h
 | some y=>exact ⟨y,rfl,by simpa using h⟩
theorem ifT {α:Type} {b:Bool} {x y:Option α} {r:α} (hc:b=true) (h:(if b=true then x else y)=some r):x=some r:=by rw [zaa hc] at h;exact h
theorem ifF {α:Type} {b:Bool} {x y:Option α} {r:α} (hc:b=false) (h:(if b=true then x else y)=some r):y=some r:=by rw [zab (by rw [hc];exact zdy)] at h;exact h
def iter {S R:Type} (step:S->Option (S ⊕ R)):Nat->S->Option R
 | 0,_=>none
 | n+1,s=>match step s with
  | none=>none
  | some (.inl s')=>iter step n s'
  | some (.inr r)=>some r
def loop {S R:Type} (step:S->Option (S ⊕ R)) (s:S):Option R:=iter step 18446744073709551616 s
theorem fG {S R:Type} {step:S->Option (S ⊕ R)} {s:S} {r:R} (h:loop step s=some r):∃ n,iter step n s=some r:=⟨_,h⟩
def Kof {S R:Type} (step:S->Option (S ⊕ R)) (n:Nat) (ρ:R):S ⊕ R->Prop
 | .inl s=>iter step n s=some ρ
 | .inr r=>r=ρ
theorem fH {S R:Type} {step:S->Option (S ⊕ R)} {n:Nat} {s:S} {ρ:R} (h:iter step n s=some ρ):∃ m q,m<n/\step s=some q/\Kof step m ρ q:=by
 cases n with
 | zero=>cases h
 | succ m =>
  unfold iter at h;split at h
  ·cases h
  ·rename_i s' hs;exact ⟨m,_,zfu _,hs,h⟩
  ·rename_i r hs;cases h;exact ⟨m,_,zfu _,hs,rfl⟩
def Kq {S R:Type} (r:R) (P:S->Prop):S⊕R->Prop
 | .inl s=>P s
 | .inr x=>x=r
theorem bt.lp {P:Program} {f:Ctx} {N:Nat} {S:Start} {Q:EV->St->Prop} {k:List Item} {env:Env} {st:St} {c:Code} {σ R:Type} {F:σ->Option (σ⊕R)} {s0:σ} {r:R} (H:Go.Abs.loop F s0=some r) (E:σ->Env) (T:σ->St) (hE:df env (E s0)) (hT:st=T s0) (step:∀ s q,F s=some q->Kq r (λj=>bt P f N S Q (.inLoop c::k) (E j) (T j)) q->bt P f N S Q (.code c::.inLoop c::k) (E s) (T s)):bt P f N S Q (.code (.loop c)::k) env st:=by
 obtain ⟨n,H⟩:=fG H;refine .loop (ι:=Nat×σ) (λp=>E p.2) (λp=>T p.2) (λp=>iter F p.1 p.2=some r) (·.1) (n,s0) H hE hT ?_
 rintro ⟨m,s⟩ HI ih;obtain ⟨m1,q,hm,h,hk⟩:=fH HI;refine step s q h ?_;cases q with
 | inl j=>exact ih (m1,j) hk hm
 | inr x=>exact hk
theorem qU {S R:Type} {step:S->Option (S ⊕ R)} (F:S->Option R) (I:S->Prop) (μ:S->Nat)
  (h:∀ s,I s->(∃ r,step s=some (.inr r)/\F s=some r)∨∃ s',step s=some (.inl s')/\I s'/\μ s'<μ s/\F s'=F s) {s:S} (hI:I s) (hμ:μ s<18446744073709551616):loop step s=F s:=by
 have key:∀ n s,I s->μ s<n->∃ r,iter step n s=some r/\F s=some r:=by
  intro n
  induction n with
  | zero=>intro s _ hn;omega
  | succ n ih =>
   intro s hI hn;rcases h s hI with ⟨r,h1,h2⟩|⟨s',h1,h2,h3,h4⟩
   ·exact ⟨r,by unfold iter;rw [h1],h2⟩
   ·obtain ⟨r,k1,k2⟩:=ih s' h2 (by omega);exact ⟨r,by unfold iter;rw [h1];exact k1,by rw [←h4];exact k2⟩
 obtain ⟨r,h1,h2⟩:=key _ s hI hμ;rw [h2];exact h1
theorem qV {S R:Type} {step:S->Option (S ⊕ R)} (Q:R->Prop) (I:S->Prop) (μ:S->Nat)
  (h:∀ s,I s->(∃ r,step s=some (.inr r)/\Q r)∨∃ s',step s=some (.inl s')/\I s'/\μ s'<μ s) {s:S} (hI:I s) (hμ:μ s<18446744073709551616):∃ r,loop step s=some r/\Q r:=by
 have key:∀ n s,I s->μ s<n->∃ r,iter step n s=some r/\Q r:=by
  intro n
  induction n with
  | zero=>intro s _ hn;omega
  | succ n ih =>
   intro s hI hn;rcases h s hI with ⟨r,h1,h2⟩|⟨s',h1,h2,h3⟩
   ·exact ⟨r,by unfold iter;rw [h1],h2⟩
   ·obtain ⟨r,k1,k2⟩:=ih s' h2 (by omega);exact ⟨r,by unfold iter;rw [h1];exact k1,k2⟩
 exact key _ s hI hμ
abbrev ZE (b:UInt8):D:=.ex (.int .u8 (b.toNat:Int))
abbrev cK (k:IntKind) (n:Int):D:=.ex (.int k n)
abbrev bd:D:=.ex (.slice none 0 0)
def Vi {α:Type} (sz:Nat) (row:α->List D) (l:List α):List D:=[.sl sz (l.map row)]
theorem eG.d {x y:D} (h:uB x y):eG (.d x) (.d y):=λg w st v hv=>by cases hv with|d _ _ hd=>exact .d _ _ (h _ _ _ hd)
theorem uB.e0 (sz:Nat):uB (.e0 sz) (.sl sz []):=λ_ _ _ h=>D.QJ h
theorem uB.eF {xs ys:List D} (h:GM xs ys):uB (.eF xs) (.eF ys):=by
 intro lim w v hv;obtain ⟨h1,h2⟩:=h.get;cases hv with
 | eF _ vs hs hc =>
  refine .eF _ vs (by rw [hs,h1]) λi c u hi hu=>?_
  obtain ⟨x,hx,hle⟩:=h2 i c hi;exact hle lim w u (hc i x u hx hu)
theorem uB.ro {xs ys:List D} (h:GM xs ys):uB (.ro xs) (.ro ys):=by
 intro lim w v hv;obtain ⟨h1,h2⟩:=h.get;cases hv with
 | ro _ b off hx hc =>
  refine .ro ys b off (λk hk=>hx k (by rw [h1];exact hk)) λj c u hj hu=>?_;obtain ⟨x,kq,hle⟩:=h2 j c hj;exact hle lim w u (hc j x u kq hu)
section weak
variable {P:Program} {f:Ctx} {N:Nat} {S:Start} {Q:EV->St->Prop} {k:List Item} {todo:List Item} {env:Env} {st:St} {ops rest:List Oper}
theorem cn.vf {st':St} (h:st=st') (hk:cn P f N S Q ops rest k env st'):cn P f N S Q ops rest k env st:=h▸hk
end weak
theorem aL.le {P:Program} {env:Env} {st:St} {o:Oper} {x y:EV} (h:aL P env st o x) (hle:eG x y):aL P env st o y:=λg b w t hi he =>
 let ⟨v,h1,h2⟩:=h g b w t hi he
 ⟨v,hle _ _ _ _ h1,h2⟩
theorem A3.le {P:Program} {env:Env} {st:St} {o:Oper} {x y:EV} (h:A3 P env st o x) (hle:eG x y):A3 P env st o y:=λg b w t hi he=>by
 rcases h g b w t hi he with ⟨v,l,w',h1,h2,h3,h4⟩|⟨f,a,h1,h2⟩
 ·exact .inl ⟨v,l,w',h1,hle _ _ _ _ h2,h3,h4⟩
 ·exact .inr ⟨f,a,h1,h2.mono λe w' ⟨v,l,k0,k1,k2,k3⟩=>⟨v,l,k0,hle _ _ _ _ k1,k2,k3⟩⟩
section q
variable {P:Program} {base:Nat} {env:Env} {st:St} {d:Option Tmp} {ty:TypeId} {pos:String} {after:Array Edge} {gd:Option (Nat×Bool)} {t t2 e:TypeId} {x y z:Operand}
section u8
variable {a b:UInt8} (hx:cX env x=some (.d (ZE a))) (hy:cX env y=some (.d (ZE b)))
theorem Wr (a b:UInt8):((a.toNat:Int)==(b.toNat:Int))=(a==b):=by
 rw [zbo];simp only [zeo];constructor
 ·intro h;exact UInt8.toNat_inj.1 (by omega)
 ·intro h;rw [h]
include hx hy
theorem Iy:aL P env st ⟨d,.binOp .lss t x y t2,ty,pos,after,gd⟩ (.d (cB (decide (a<b)))):=by
 have:=U8 (P:=P) (st:=st) (d:=d) (ty:=ty) (pos:=pos) (after:=after) (gd:=gd) (t:=t) (t2:=t2) hx hy
 rwa [show decide (((a.toNat:Int))<(b.toNat:Int))=decide (a<b) from by rw [zfv,UInt8.lt_iff_toNat_lt];omega] at this
theorem Ws:aL P env st ⟨d,.binOp .leq t x y t2,ty,pos,after,gd⟩ (.d (cB (decide (a<=b)))):=by
 have:=U9 (P:=P) (st:=st) (d:=d) (ty:=ty) (pos:=pos) (after:=after) (gd:=gd) (t:=t) (t2:=t2) hx hy
 rwa [show decide (((a.toNat:Int))<=(b.toNat:Int))=decide (a<=b) from by rw [zfv,UInt8.le_iff_toNat_le];omega] at this
theorem Iz:aL P env st ⟨d,.binOp .gtr t x y t2,ty,pos,after,gd⟩ (.d (cB (decide (a > b)))):=by
 have:=Va (P:=P) (st:=st) (d:=d) (ty:=ty) (pos:=pos) (after:=after) (gd:=gd) (t:=t) (t2:=t2) hx hy
 rwa [show decide (((a.toNat:Int)) > (b.toNat:Int))=decide (a > b) from by rw [zfv,gt_iff_lt,gt_iff_lt,UInt8.lt_iff_toNat_lt];omega] at this
theorem Wu:aL P env st ⟨d,.binOp .geq t x y t2,ty,pos,after,gd⟩ (.d (cB (decide (a>=b)))):=by
 have:=Vb (P:=P) (st:=st) (d:=d) (ty:=ty) (pos:=pos) (after:=after) (gd:=gd) (t:=t) (t2:=t2) hx hy
 rwa [show decide (((a.toNat:Int))>=(b.toNat:Int))=decide (a>=b) from by rw [zfv,ge_iff_le,ge_iff_le,UInt8.le_iff_toNat_le];omega] at this
theorem Wv:aL P env st ⟨d,.binOp .neq t x y t2,ty,pos,after,gd⟩ (.d (cB (a != b))):=by
 have:=Vc (P:=P) (st:=st) (d:=d) (ty:=ty) (pos:=pos) (after:=after) (gd:=gd) (t:=t) (t2:=t2) hx hy
 rwa [show ((a.toNat:Int) != (b.toNat:Int))=(a != b) from by unfold bne;rw [Wr]] at this
end u8
section sl
variable {α:Type} {sz:Nat} {row:α->List D} {l:List α} {ev:EV} {inf:TypeInfo}
theorem Ww [Inhabited α] {k:IntKind} {i:Int} (ht:P.underlying t=some (.slice e)) (hi:P.info? e=some inf) (fT:inf.size=sz) (hx:cX env x=some ev) (hs:wC ev=some (sz,l.map row)) (hy:cX env y=some (.d (.ex (.int k i)))) (h:0<=i/\i<l.length) :
  aL P env st ⟨d,.indexAddr t x y,ty,pos,after,gd⟩ (.d (.ro (row (nth l i.toNat)))):=Wo (n:=i.toNat) ht hi fT hx hs hy (by omega) (Cv (by omega))
theorem oP {a:List UInt8} {k:IntKind} {i:Int} (ht:P.underlying t=some .string) (hx:cX env x=some (.d (cS a))) (hy:cX env y=some (.d (.ex (.int k i)))) (h:0<=i/\i<a.length) :
  aL P env st ⟨d,.index t x y,ty,pos,after,gd⟩ (.d (ZE (nth a i.toNat))):=by
 have:=Q8 (n:=i.toNat) (st:=st) (d:=d) (ty:=ty) (pos:=pos) (after:=after) (gd:=gd) ht hx hy (by omega) (by omega);exact this
theorem Wx (ht:P.underlying t=some (.slice e)) (hx:cX env x=some ev) (hs:wC ev=some (sz,l.map row)) :
  aL P env st ⟨d,.call ⟨.builtin .len,#[x],#[t]⟩,ty,pos,after,gd⟩ (.d (cI (l.length:Int))):=by
 have:=Wp (st:=st) (d:=d) (ty:=ty) (pos:=pos) (after:=after) (gd:=gd) ht hx hs
 rwa [zdc] at this
theorem Cw {kh:IntKind} {b:Int} (ht:P.underlying t=some (.slice e)) (hi:P.info? e=some inf) (fT:inf.size=sz) (hx:cX env x=some ev) (hs:wC ev=some (sz,l.map row)) (hz:cX env z=some (.d (.ex (.int kh b)))) (h:0<=b/\b<=l.length) :
  aL P env st ⟨d,.slice t x none (some z) none,ty,pos,after,gd⟩ (.d (aj sz row (l.take b.toNat))):=by
 have:=Zo (st:=st) (d:=d) (ty:=ty) (pos:=pos) (after:=after) (gd:=gd) ht hi fT hx hs hz h.1 (by simpa using h.2);simpa [aj] using this
theorem MG {kl:IntKind} {a:Int} (ht:P.underlying t=some (.slice e)) (hi:P.info? e=some inf) (fT:inf.size=sz) (hx:cX env x=some ev) (hs:wC ev=some (sz,l.map row)) (hy:cX env y=some (.d (.ex (.int kl a)))) (h:0<=a/\a<=l.length) :
  aL P env st ⟨d,.slice t x (some y) none none,ty,pos,after,gd⟩ (.d (aj sz row (l.drop a.toNat))):=by
 have:=Zp (st:=st) (d:=d) (ty:=ty) (pos:=pos) (after:=after) (gd:=gd) ht hi fT hx hs hy h.1 (by simpa using h.2);simpa [aj] using this
theorem Rc {a:List UInt8} {kl kh:IntKind} {i j:Int} (ht:P.underlying t=some .string) (hx:cX env x=some (.d (cS a))) (hy:cX env y=some (.d (.ex (.int kl i)))) (hz:cX env z=some (.d (.ex (.int kh j)))) (h:0<=i/\i<=j/\j<=a.length) :
  aL P env st ⟨d,.slice t x (some y) (some z) none,ty,pos,after,gd⟩ (.d (cS ((a.take j.toNat).drop i.toNat))):=by
 have:=TV (st:=st) (d:=d) (ty:=ty) (pos:=pos) (after:=after) (gd:=gd) ht hx hy hz h.1 h.2.1 h.2.2
 rwa [←List.drop_take] at this
theorem E7 {n b:Nat} (h:n<=1000000000) (hb:b<=100000):n*b<=140737488355328:=zdo (Nat.mul_le_mul h hb) (by decide)
theorem yX {l':List α} {tk:Nat} {z:Value} {w:EV} (ht:P.underlying t=some (.slice e)) (hi:P.info? e=some inf) (hz:inf.zero=some z) (fw:inf.size=sz) (rZ:z.cells.size=sz) (hb:inf.bytes<=100000)
  (hx:cX env x=some (.cY sz (l.map row) tk)) (fc:st.ar[tk]?=some ⟨e,sz,l.length,none⟩) (hy:cX env y=some w) (hs:wC w=some (sz,l'.map row)) (hn:l.length+l'.length<=1000000000) :
  xY P base env st ⟨d,.call ⟨.builtin .append,#[x,y],#[t,t]⟩,ty,pos,after,gd⟩ (.cY sz ((l++l').map row) tk) (st.bD tk ⟨e,sz,(l++l').length,none⟩):=by
 have:=QX (base:=base) (d:=d) (ty:=ty) (pos:=pos) (after:=after) (gd:=gd) ht hi hz fw rZ hx (by simpa using fc) hy hs (by simpa using E7 hn hb) (by simp;omega);simpa using this
theorem wK {l':List α} {z:Value} {w:EV} (ht:P.underlying t=some (.slice e)) (hi:P.info? e=some inf) (hz:inf.zero=some z) (fw:inf.size=sz) (rZ:z.cells.size=sz) (hb:inf.bytes<=100000)
  (hx:cX env x=some (.d bd)) (hy:cX env y=some w) (hs:wC w=some (sz,l'.map row)) (hn:l'.length<=1000000000) :
  xY P base env st ⟨d,.call ⟨.builtin .append,#[x,y],#[t,t]⟩,ty,pos,after,gd⟩ (.cY sz (l'.map row) st.ar.length) ((st.tok ⟨e,sz,0,none⟩).bD st.ar.length ⟨e,sz,l'.length,none⟩):=by
 have:=Kh (base:=base) (st:=st) (d:=d) (ty:=ty) (pos:=pos) (after:=after) (gd:=gd) ht hi hz fw rZ hx hy hs (by simpa using E7 hn hb) (by simp;omega);simpa using this
end sl
end q
section ret
variable {P:Program} {f:Ctx} {N:Nat} {S:Start} {Q:EV->St->Prop} {k:List Item} {env:Env} {st:St}
theorem bt.bQ {id:Nat} {c:Code} {ι:Type} (E:ι->Env) (T:ι->St) (I:ι->Prop)
  (hk:∀ i,I i->bt P f N S Q k (E i) (T i)) (h:(∀ i,I i->bt P f N S Q (.inBlock id::k) (E i) (T i))->(∀ i,I i->bt P f N S Q k (E i) (T i))->bt P f N S Q (.code c::.inBlock id::k) env st) :
  bt P f N S Q (.code (.block id c)::k) env st:=.block (h (λi hi=>.inBlock (hk i hi)) hk)
def Vj (P:Program) (env:Env) (st:St):ResultVar->EV->Prop
 | .tmp t,r=>lookup t env=some r
 | .cell a T,r=>(∃ o off,lookup a env=some (.ref o off))/\aL P env st ⟨none,.load T (.tmp a),0, "",#[],none⟩ r
def E8 (P:Program) (env:Env) (st:St):List ResultVar->List EV->Prop
 | [],[]=>True
 | x::xs,e::es=>Vj P env st x e/\E8 P env st xs es
 | _,_=>False
def E9:List EV->EV
 | [r]=>r
 | l=>.eF l
def Kt:List EV->List D->Prop
 | [],[]=>True
 | e::es,x::xs=>eG e (.d x)/\Kt es xs
 | _,_=>False
theorem Kt.get:∀ {es:List EV} {ds:List D},Kt es ds->es.length=ds.length/\∀ (i:Nat) d,ds[i]?=some d->∃ e,es[i]?=some e/\eG e (.d d)
 | [],[],_=>⟨rfl,λi y h=>by simp at h⟩
 | e::es,d::ds,h=>by
  obtain ⟨h1,h2⟩:=Kt.get h.2;refine ⟨by simp [h1],λi z hz=>?_⟩;cases i with
  | zero=>simp at hz;subst hz;exact ⟨e,rfl,h.1⟩
  | succ i=>simpa using h2 i z (by simpa using hz)
 | [],_::_,h=>h.elim
 | _::_,[],h=>h.elim
theorem eG.vM {es:List EV} {ds:List D} (h:Kt es ds):eG (.eF es) (.d (.eF ds)):=by
 intro g w st v hv;obtain ⟨h1,h2⟩:=h.get;cases hv with
 | eF _ vs hs hc =>
  refine .d _ _ (.eF _ vs (by rw [hs,h1]) λi d u hd hu=>?_);obtain ⟨e,he,hle⟩:=h2 i d hd;cases hle _ _ _ _ (hc i e u he hu) with|d _ _ h=>exact h
def Hr (tmps:Array Value):ResultVar->Sem Value
 | .tmp t=>pure (tmps.getD t undef)
 | .cell a t=>do loadVar t (←asAddr (tmps.getD a undef))
theorem T5 {g:b7} {w:World} {base:Nat} {tmps:Array Value} (hi:Inv g base w st) (he:dV g w st env tmps) {x:ResultVar} {e:EV} (h:Vj P env st x e) :
  ∃ v,(Hr tmps x).run P w=.ok v w/\bK g w st e v:=by
 cases x with
 | tmp t =>
  obtain ⟨v,h1,h2⟩:=he t e h;exact ⟨v,by simp [Hr,zas,h1],h2⟩
 | cell a T =>
  obtain ⟨⟨o,off,hx⟩,hq⟩:=h;obtain ⟨v,h1,h2⟩:=hq g base w tmps hi he;have h3:=h2 w (.refl _ _);obtain ⟨pv,h4,h5⟩:=he a _ hx;have h6:(Act.eval ⟨tmps,[]⟩ (.tmp a))=pv:=by
   show tmps.getD a undef=pv;rw [zas,h4];rfl
  refine ⟨v,?_,h1⟩;cases h5 with
  | ref _ _ cJ =>
   simp only [execOp,h6,Instr.loadAt,Instr.sureAddr,Sem.run_bind] at h3;simp only [Hr];simp [zas,h4,asAddr];simp at h3;generalize (Sem.run P (loadVar T { block:=g.ob o,off:=off }) w)=res at h3 ⊢;cases res with
   | ok x w2=>simp [Result.andThen_ok] at h3;simp [h3]
   | halt h w2=>simp [Result.andThen] at h3
theorem IA {g:b7} {w:World} {base:Nat} {tmps:Array Value} (hi:Inv g base w st) (he:dV g w st env tmps):∀ {xs:List ResultVar} {es:List EV},E8 P env st xs es ->
  ∃ vs:List Value,(xs.mapM (Hr tmps)).run P w=.ok vs w/\vs.length=es.length/\∀ (i:Nat) e v,es[i]?=some e->vs[i]?=some v->bK g w st e v
 | [],[],_=>⟨[],by simp,rfl,by simp⟩
 | x::xs,e::es,h=>by
  obtain ⟨v,h1,h2⟩:=T5 hi he h.1;obtain ⟨vs,k1,k2,k3⟩:=IA hi he h.2;refine ⟨v::vs,by simp [h1,k1],by simp [k2],λi e' v' A1 GG=>?_⟩;cases i with
  | zero=>simp at A1 GG;subst A1;subst GG;exact h2
  | succ i=>exact k3 i e' v' (by simpa using A1) (by simpa using GG)
 | [],_::_,h=>h.elim
 | _::_,[],h=>h.elim
theorem bt.ZF {f:FuncId} {fn:Func} (xs:List ResultVar) (es:List EV) (hf:P.funcs[f]?=some fn) (hr:fn.results=xs.toArray) (h:E8 P env st xs es) (hQ:Q (E9 es) st):bt P (.of f) N S Q (.code .ret::k) env st:=by
 intro g w tmps hi hh he hn;obtain ⟨vs,h1,h2,h3⟩:=IA hi he h;have iE:(results fn tmps).run P w=.ok (if h:vs.toArray.size=1 then vs.toArray[0] else .tuple vs.toArray) w:=by
  have Wy:(results fn tmps)=(do let vs ←fn.results.mapM (Hr tmps);pure (if h:vs.size=1 then vs[0] else .tuple vs)):=by
   unfold results;congr 1
  rw [Wy,hr,zfr];simp only [Sem.run_bind,Sem.run_map,h1,Result.andThen_ok,Sem.run_pure]
 refine eH.ret hf iE ⟨_,E9 es,st,g,rfl,hQ,?_,hi,hh⟩;by_cases hl:vs.toArray.size=1
 ·rw [dif_pos hl]
  match vs,es,h2,hl,h3 with
  | [v],[e],_,_,h3=>exact h3 0 e v rfl rfl
  | [],_,_,hl,_=>simp at hl
  | _::_::_,_,_,hl,_=>simp at hl
 ·rw [dif_neg hl];have hes:E9 es=.eF es:=by
   match es,h2 with
   | [],_=>rfl
   | [e],h2=>exact absurd (by simpa using h2) hl
   | _::_::_,_=>rfl
  rw [hes];exact .eF es vs.toArray (by simpa using h2) λi c u hc hu=>h3 i c u hc (by simpa using hu)
end ret
section b
variable {P:Program} {env:Env} {st:St} {d:Option Tmp} {ty:TypeId} {pos:String} {after:Array Edge} {gd:Option (Nat×Bool)} {t t2 e:TypeId} {x y z:Operand}
theorem iW {n sz:Nat} {inf:TypeInfo} {z:Value} {zs:List D} {rows:List (List D)} {l:List (Nat×Operand)} (ht:P.underlying t=some (.slice e)) (hi:P.info? e=some inf) (fT:inf.size=sz) (hz:inf.zero=some z) (rZ:Nat.beq z.cells.size sz=true)
  (yb:(Nat.ble (n*sz) 16777216 && Nat.blt 0 n && Nat.blt 0 sz)=true) (NX:cellsD (.d (cv z))=some zs) (hl:DT (λi=>some (i*sz,sz)) env (List.replicate n zs).flatten l=some rows.flatten)
  (hr:(rows.all (λr=>Nat.beq r.length sz) && Nat.beq rows.length n)=true) :
  A3 P env st ⟨d,.buildSlice t n l.toArray,ty,pos,after,gd⟩ (.d (.sl sz rows)):=by
 simp only [zaq] at yb hr;have GJ:=zav rZ;have QA:zs.length=sz:=by
  have:=(lZ (g:=⟨λ_=>0,λ_=>0,λ_=>.nilFunc⟩) (w:=(default:World)) (st:=⟨[],[]⟩) NX (.d _ _ (qO _ _ z))).1;omega
 exact Bh ht hi fT hz GJ (jj yb.1.2) (zae yb.1.1) (by simp [QA]) NX hl hr.1 (zav hr.2) (jj yb.2)
theorem dE {a b:Bool} (hx:cX env x=some (.d (cB a))) (hy:cX env y=some (.gd a (.d (cB b)))) (hz:cX env z=some (.d (cB false))) :
  aL P env st ⟨d,.pick x y z,ty,pos,after,gd⟩ (.d (cB (a && b))):=by
 have:=Pf (P:=P) (st:=st) (d:=d) (ty:=ty) (pos:=pos) (after:=after) (gd:=gd) hx hy hz
 rwa [show (if a=true then b else false)=(a && b) from by cases a <;> rfl] at this
theorem vN {a b:Bool} (hx:cX env x=some (.d (cB a))) (hy:cX env y=some (.d (cB true))) (hz:cX env z=some (.gd (!a) (.d (cB b)))) :
  aL P env st ⟨d,.pick x y z,ty,pos,after,gd⟩ (.d (cB (a || b))):=by
 have:=QK (P:=P) (st:=st) (d:=d) (ty:=ty) (pos:=pos) (after:=after) (gd:=gd) hx hy hz
 rwa [show (if a=true then true else b)=(a || b) from by cases a <;> rfl] at this
theorem s9 {f':FuncId} {l:List Operand} {ts:Array TypeId} {es:List EV} {ds:List D} {r:D} (DP:Enters P f') (hx:cX env x=some (.d (.ex (.func (.func f') #[] #[])))) (h1:Co env l=some es) (h2:Mv es=some ds) (hc:aF P f' ds (·=r)) :
  A3 P env st ⟨d,.call ⟨.value x,l.toArray,ts⟩,ty,pos,after,gd⟩ (.d r):=λg base w tmps hi he=>by
 have hv:=(aP he hx).bN;have iE:=Hm (d:=d) (ty:=ty) (pos:=pos) (after:=after) (l:=l) (ts:=ts) DP w hv (gd:=gd);rw [Array.append_empty] at iE;refine .inr ⟨f',_,iE,(hc g.lim w _ (hi.DO.mono hi.base) (.of he h1 h2)).mono ?_⟩;rintro e w' ⟨v,r',dm,rfl,rfl,hr,NR,hb,hl⟩;exact ⟨v,dm,rfl,.d _ _ hr,hb,hl⟩
theorem Inv.T6 {g:b7} {base:Nat} {w:World} {st:St} (h:Inv g base w st) (e sz n:Nat) (vs:Array Value) (DQ:vs.size=n*sz) (hn:n<=maxLen) :
  ∃ g',g'.tk st.ar.length=.slice (some ⟨w.heap.size,0,none⟩) n n/\Inv g' base (w.alloc (.cells vs e)) (st.tok ⟨e,sz,n,none⟩)/\Step base g w st g' (w.alloc (.cells vs e)) (st.tok ⟨e,sz,n,none⟩):=by
 obtain ⟨g',h1,_,_,h2,h3⟩:=h.s8 ⟨e,sz,n,none⟩ (v:=.slice (some ⟨w.heap.size,0,none⟩) n n) (xs:=vs.toList) ⟨by simp [DQ],.inr ⟨w.heap.size,n,vs,rfl,h.base,heap_alloc_new w _,zar _,hn,DQ,by rw [zbw (by simp [DQ])]⟩⟩
  (.inr ⟨rfl,(Below.refl _ w).alloc (zar _) _⟩) (λrows hh=>by cases hh)
 exact ⟨g',h1,h2,h3⟩
theorem zU {base n sz:Nat} {inf:TypeInfo} {z:Value} {zs:List D} {rows:List (List D)} {l:List (Nat×Operand)} (ht:P.underlying t=some (.slice e)) (hi:P.info? e=some inf) (fT:inf.size=sz) (hz:inf.zero=some z) (rZ:Nat.beq z.cells.size sz=true)
  (yb:(Nat.ble (n*sz) 16777216 && Nat.blt 0 n && Nat.blt 0 sz)=true) (NX:cellsD (.d (cv z))=some zs) (hl:DT (λi=>some (i*sz,sz)) env (List.replicate n zs).flatten l=some rows.flatten)
  (hr:(rows.all (λr=>Nat.beq r.length sz) && Nat.beq rows.length n)=true) :
  xY P base env st ⟨d,.buildSlice t n l.toArray,ty,pos,after,gd⟩ (.cY sz rows st.ar.length) (st.tok ⟨e,sz,rows.length,none⟩):=by
 simp only [zaq] at yb hr;have GJ:=zav rZ;have hn:=zav hr.2;have NV:=jj yb.1.2;have Ml:=jj yb.2;have hbg:=zae yb.1.1;intro g w tmps hinv he;have Aq:=lZ (g:=g) (w:=w) (st:=st) NX (.d _ _ (qO _ _ z));have QA:zs.length=sz:=by rw [←Aq.1,GJ]
 have Dm:(List.replicate n zs).flatten.length=n*sz:=by simp [QA]
 have j5:∀ row∈rows,row.length=sz:=by
  intro row hm;have:=hr.1;rw [zaz] at this;exact zav (this row hm)
 have sI:EY g.lim w (List.replicate n zs).flatten ((Array.range (n*sz)).map (z.cells[· % z.cells.size]!)):=by
  refine ⟨by simp [Dm],λi c u hc hu=>?_⟩;have oM:i<n*sz:=by rw [←Dm];exact (zad.1 hc).1
  have yc:i % sz<sz:=zem _ Ml;have hdiv:i / sz<n:=zdw (by rw [zdp];exact oM);have Mz:i=i / sz*sz+i % sz:=by rw [zdp];exact (zew i sz).symm
  have hf:=kX (rows:=List.replicate n zs) (sz:=sz) (i:=i / sz) (j:=i % sz) (row:=zs) (c:=zs[i % sz]'(by omega)) (by intro row hm;rw [List.eq_of_mem_replicate hm];exact QA) (by simp [List.getElem?_replicate,hdiv]) (zaf (by omega));rw [←Mz,hc] at hf;have We:zs[i % sz]?=some c:=by cases hf;exact zaf (by omega)
  have Zs:z.cells[i % sz]?=some u:=by
   have j0:i % sz<z.cells.size:=by omega
   have:((Array.range (n*sz)).map (z.cells[· % z.cells.size]!))[i]?=some (z.cells[i % z.cells.size]!):=by simp [oM]
   rw [this] at hu;cases hu;rw [GJ,zdz z.cells (i % sz) j0,zbi j0]
  exact Aq.2 _ c u We Zs
 obtain ⟨us,h1,h2,h3⟩:=tK he l _ _ _ hl sI;have El:=j4 j5;have Qz:us.size=n*sz:=by rw [h2.1,El,hn]
 have hnm:n<=maxLen:=by
  have:n*1<=n*sz:=Nat.mul_le_mul_left n Ml;simp only [maxLen];omega
 obtain ⟨g',k1,k2,k3⟩:=hinv.T6 e sz n us Qz hnm;have mA:st.tok ⟨e,sz,rows.length,none⟩=st.tok ⟨e,sz,n,none⟩:=by rw [hn]
 rw [mA];have fc:(st.tok ⟨e,sz,n,none⟩).ar[st.ar.length]?=some ⟨e,sz,n,none⟩:=by simp [St.tok]
 obtain ⟨xs,m1,m2⟩:=k2.tail _ _ _ _ fc;rw [k1] at m1 m2;have T1:xs=us.toList:=by
  rcases m1.2 with ⟨hh,_⟩|⟨gb,cap,cur,e1,_,e3,e4,e5,e6,e7⟩
  ·cases hh
  ·cases e1;rw [heap_alloc_new] at e3;cases e3;rw [←e7,zbw (by simp [Qz])]
 subst T1;refine ⟨_,g',_,?_,.cY sz rows _ _ e n (Iq m1 hn j5 (λb hb=>by rw [m2 b hb];exact zar _) λj u c hu hc=>?_) fc (zga hn) (λ_=>.inl k1.symm),k2,k3⟩
 ·subst fT;have Hq:¬ (16777216<n*inf.size):=by omega
  have pU:¬ n*inf.size=0:=by
   intro h0;rcases Nat.mul_eq_zero.1 h0 with h|h <;> omega
  have Mk:Instr.fill (λi=>some (i*inf.size,inf.size)) (Array.map (λx=>z.cells[x % z.cells.size]!) (Array.range (n*inf.size))) (List.map (λp=>(p.1,Act.eval ⟨tmps,[]⟩ p.2)) l)=some us:=h1;simp [execOp,Instr.buildSlice,run_underlying ht,pX hi,Hq,pU,tL hi hz,Mk,newRow]
 ·have:=h2.2 j c u hc (by simpa using hu);exact ⟨this.1.mono k3.dB.cX,this.2⟩
end b
def da (rs:List Nat) (N i:Nat):Nat:=match rs[i]? with
 | some r=>r
 | none=>N+(i-rs.length)
structure N1 (rs:List Nat) (N:Nat):Prop where
 lt:∀ r,r∈rs->r<N
 inj:∀ (i j:Nat) (r:Nat),rs[i]?=some r->rs[j]?=some r->i=j
theorem Cx {rs:List Nat} {N i:Nat} (h:N1 rs N) (hi:i<rs.length):da rs N i<N/\rs[i]?=some (da rs N i):=by
 have e:rs[i]?=some rs[i]:=zaf hi;unfold da;rw [e];exact ⟨h.lt _ (zfg hi),rfl⟩
theorem Au {rs:List Nat} {N i:Nat} (hi:rs.length<=i):da rs N i=N+(i-rs.length):=by
 unfold da;rw [zbp hi]
theorem IB {rs:List Nat} {N i j:Nat} (h:N1 rs N) (e:da rs N i=da rs N j):i=j:=by
 by_cases hi:i<rs.length <;> by_cases hj:j<rs.length
 ·obtain ⟨_,h1⟩:=Cx h hi;obtain ⟨_,h2⟩:=Cx h hj;rw [e] at h1;exact h.inj i j _ h1 h2
 ·obtain ⟨h1,_⟩:=Cx h hi;rw [Au (i:=j) (by omega)] at e;omega
 ·obtain ⟨h1,_⟩:=Cx h hj;rw [Au (i:=i) (by omega)] at e;omega
 ·rw [Au (i:=i) (by omega),Au (i:=j) (by omega)] at e;omega
open Classical in
noncomputable def je (rs:List Nat) (N o:Nat):Option Nat:=if h:∃ i,da rs N i=o then some h.choose else none
theorem Em {rs:List Nat} {N:Nat} (h:N1 rs N) (i:Nat):je rs N (da rs N i)=some i:=by
 have hex:∃ j,da rs N j=da rs N i:=⟨i,rfl⟩;unfold je;rw [dif_pos hex];congr 1;exact IB h hex.choose_spec
theorem Fa {rs:List Nat} {N o i:Nat} (e:je rs N o=some i):da rs N i=o:=by
 unfold je at e;split at e
 ·rename_i hex;cases e;exact hex.choose_spec
 ·cases e
theorem Ku {rs:List Nat} {N o:Nat} (e:je rs N o=none):o<N/\∀ i,da rs N i≠o:=by
 unfold je at e;split at e
 ·cases e
 ·rename_i hex;refine ⟨?_,λi hi=>hex ⟨i,hi⟩⟩
  false_or_by_contra
  rename_i cJ;exact hex ⟨rs.length+(o-N),by rw [Au (by omega)];omega⟩
theorem Hs {rs:List Nat} {N o i:Nat} (h:N1 rs N) (e:je rs N o=some i) (ho:o<N):i<rs.length:=by
 have:=Fa e
 false_or_by_contra
 rw [Au (by omega)] at this;omega
def l9 {α:Type}:List α->List Nat->List α->List α
 | l,r::rs,x::xs=>l9 (l.set r x) rs xs
 | l,_,xs=>l++xs
theorem Av {α:Type}:∀ (rs:List Nat) (l xs:List α),rs.length<=xs.length->(l9 l rs xs).length=l.length+(xs.length-rs.length)
 | [],l,xs,_=>by simp [l9]
 | r::rs,l,[],h=>by simp at h
 | r::rs,l,x::xs,h=>by
  simp only [l9];rw [Av rs _ xs (by simpa using h)];simp
theorem ta {α:Type}:∀ (rs:List Nat) (l xs:List α) (o:Nat),o<l.length->o ∉ rs->(l9 l rs xs)[o]?=l[o]?
 | [],l,xs,o,ho,_=>by simp [l9,zao ho]
 | r::rs,l,[],o,ho,_=>by simp [l9]
 | r::rs,l,x::xs,o,ho,hn=>by
  simp only [l9];simp only [zan,not_or] at hn;rw [ta rs _ xs o (by simpa using ho) hn.2,zbl,zab (zcn hn.1)]
theorem Aw {α:Type}:∀ (rs:List Nat) (l xs:List α) (N:Nat),l.length=N->N1 rs N->rs.length<=xs.length->∀ i,(l9 l rs xs)[da rs N i]?=xs[i]?
 | [],l,xs,N,hN,_,_,i=>by
  rw [Au (by simp)];simp only [l9,zbh,Nat.sub_zero,←hN];rw [zaw (by omega)];simp
 | r::rs,l,[],N,hN,_,h,i=>by simp at h
 | r::rs,l,x::xs,N,hN,he,h,i=>by
  have A1:N1 rs N:=⟨λr hr=>he.lt r (by simp [hr]),λi j r a b=>by
   have:=he.inj (i+1) (j+1) r (by simpa using a) (by simpa using b);omega⟩
  have hr:r<N:=he.lt r (by simp);have hnr:r ∉ rs:=λhm=>by
   obtain ⟨j,hj⟩:=zdg.1 hm;have:=he.inj 0 (j+1) r (by simp) (by simpa using hj);omega
  simp only [l9];cases i with
  | zero =>
   have:da (r::rs) N 0=r:=by simp [da]
   rw [this,ta rs _ xs r (by simpa [hN] using hr) hnr];simp [zbl,hN,hr]
  | succ i =>
   have:da (r::rs) N (i+1)=da rs N i:=by
    unfold da;simp only [List.getElem?_cons_succ,zai];split
    ·rfl
    ·omega
   rw [this,Aw rs _ xs N (by simpa using hN) A1 (by simpa using h) i];simp
def Ps (rs:List Nat) (N:Nat):Bool:=rs.all (λr=>Nat.blt r N) && nodupB rs
where nodupB:List Nat->Bool
 | []=>true
 | r::rs=>rs.all (λx=>!Nat.beq x r) && nodupB rs
theorem N1.of {rs:List Nat} {N:Nat} (h:Ps rs N=true):N1 rs N:=by
 simp only [Ps,zaq,zaz] at h;refine ⟨λr hr=>jj (h.1 r hr),?_⟩;have key:∀ (l:List Nat),Ps.nodupB l=true->∀ (i j:Nat) (r:Nat),l[i]?=some r->l[j]?=some r->i=j:=by
  intro l
  induction l with
  | nil=>intro _ i j r hi;simp at hi
  | cons x l ih =>
   intro hn i j r hi hj;simp only [Ps.nodupB,zaq,zaz] at hn;cases i with
   | zero =>
    cases j with
    | zero=>rfl
    | succ j =>
     simp at hi hj;subst hi;have:=hn.1 x (zbj hj);simp at this
   | succ i =>
    cases j with
    | zero =>
     simp at hi hj;subst hj;have:=hn.1 x (zbj hi);simp at this
    | succ j =>
     have:=ih hn.2 i j r (by simpa using hi) (by simpa using hj);omega
 exact key rs h.2
section ren
def EV.ren (ρ τ:Nat->Nat):EV->EV
 | .d x=>.d x
 | .ref o off=>.ref (ρ o) off
 | .JW o off n c=>.JW (ρ o) off n c
 | .cY sz rows t=>.cY sz rows (τ t)
 | .mp o=>.mp (ρ o)
 | .vc t k=>.vc (τ t) k
 | .vp t k i off=>.vp (τ t) k i off
 | .vw t k lo n=>.vw (τ t) k lo n
 | .wv f cs=>.wv f (IC ρ τ cs)
 | .agg cs=>.agg (IC ρ τ cs)
 | .eF cs=>.eF (IC ρ τ cs)
 | .gd b x=>.gd b (EV.ren ρ τ x)
where
 IC (ρ τ:Nat->Nat):List EV->List EV
 | []=>[]
 | x::l=>EV.ren ρ τ x::IC ρ τ l
theorem oQ (ρ τ:Nat->Nat):∀ l:List EV,EV.ren.IC ρ τ l=l.map (EV.ren ρ τ)
 | []=>rfl
 | x::l=>by simp [EV.ren.IC,oQ ρ τ l]
def dD.ren (ρ τ:Nat->Nat):dD->dD
 | .row ty cs=>.row ty (EV.ren.IC ρ τ cs)
 | .map es=>.map (es.map λp=>(p.1,p.2.ren ρ τ))
 | .raw x=>.raw x
 | .gone=>.gone
theorem dD.Re {ρ τ:Nat->Nat} {x:dD} (h:x.ren ρ τ=.gone):x=.gone:=by cases x <;> first|rfl|cases h
def b7.sub (g:b7) (ρ τ:Nat->Nat):b7:=⟨g.lim,λo=>g.ob (ρ o),λt=>g.tk (τ t)⟩
variable {ρ τ:Nat->Nat} {g g':b7} {w:World} {s0 st:St}
theorem bK.down (ht:∀ t x,s0.ar[t]?=some x->st.ar[τ t]?=some x):∀ {x:EV} {v:Value},pZ s0.aQ.length s0.ar.length x=true->bK g w st (x.ren ρ τ) v->bK (g.sub ρ τ) w s0 x v:=by
 have wL:∀ {t:Nat},t<s0.ar.length->∀ {x:iu},st.ar[τ t]?=some x->s0.ar[t]?=some x:=fun {t} cJ {x} hx=>by
  have h1:=ht t _ (zaf cJ);rw [hx] at h1;cases h1;exact zaf cJ
 have main:∀ {y:EV} {v:Value},bK g w st y v->∀ x:EV,pZ s0.aQ.length s0.ar.length x=true->y=x.ren ρ τ->bK (g.sub ρ τ) w s0 x v:=by
  intro y v h
  induction h with
  | d a v h =>
   intro x hx e;cases x <;> simp only [EV.ren] at e <;> cases e;exact .d _ _ h
  | ref o off h =>
   intro x hx e;cases x <;> simp only [EV.ren] at e <;> cases e;exact .ref (g:=g.sub ρ τ) _ _ (jj hx)
  | JW o off n c h =>
   intro x hx e;cases x <;> simp only [EV.ren] at e <;> cases e;exact .JW (g:=g.sub ρ τ) _ _ _ _ (jj hx)
  | cY sz rows t v el n hd tJ hn hv =>
   intro x hx e;cases x <;> simp only [EV.ren] at e <;> cases e;exact .cY sz rows _ v el n hd (wL (jj hx) tJ) hn hv
  | mp o h =>
   intro x hx e;cases x <;> simp only [EV.ren] at e <;> cases e;exact .mp (g:=g.sub ρ τ) _ (jj hx)
  | wv f cs vs hs h ih =>
   intro x hx e;cases x <;> simp only [EV.ren] at e <;> cases e;rename_i ds;simp only [pZ] at hx;rw [oQ] at hs ih;refine .wv f _ vs (by simpa using hs) λi c u hc hu=>ih i (c.ren ρ τ) u (by rw [zbe,hc];rfl) hu c (qS hx i c hc) rfl
  | agg cs vs hs h1 h ih =>
   intro x hx e;cases x <;> simp only [EV.ren] at e <;> cases e;simp only [pZ] at hx;rw [oQ] at hs ih;refine .agg _ vs (by simpa using hs) h1 λi c u hc hu=>ih i (c.ren ρ τ) u (by rw [zbe,hc];rfl) hu c (qS hx i c hc) rfl
  | eF cs vs hs h ih =>
   intro x hx e;cases x <;> simp only [EV.ren] at e <;> cases e;simp only [pZ] at hx;rw [oQ] at hs ih;refine .eF _ vs (by simpa using hs) λi c u hc hu=>ih i (c.ren ρ τ) u (by rw [zbe,hc];rfl) hu c (qS hx i c hc) rfl
  | gd b a v h0 h ih =>
   intro x hx e;cases x <;> simp only [EV.ren] at e <;> cases e;simp only [pZ] at hx;exact .gd _ _ v h0 λhb=>ih hb _ hx rfl
  | vc t k v tJ hf h =>
   intro x hx e;cases x <;> simp only [EV.ren] at e <;> cases e;exact .vc _ _ v (jj hx) hf λx rows hy=>h x rows (ht _ _ hy)
  | vp t k i off v tJ hf h =>
   intro x hx e;cases x <;> simp only [EV.ren] at e <;> cases e;exact .vp _ _ _ _ v (jj hx) hf λx rows hy=>h x rows (ht _ _ hy)
  | vw t k lo n v tJ hf h =>
   intro x hx e;cases x <;> simp only [EV.ren] at e <;> cases e;exact .vw _ _ _ _ v (jj hx) hf λx rows hy=>h x rows (ht _ _ hy)
 intro x v hx h;exact main h x hx rfl
theorem bK.up {g1:b7} {s1:St} (A9:∀ o,o<s1.aQ.length->g'.ob (ρ o)=g1.ob o/\ρ o<st.aQ.length) (Ao:g'.lim=g1.lim)
  (ht:∀ t,t<s1.ar.length->st.ar[τ t]?=s1.ar[t]?/\g'.tk (τ t)=g1.tk t) {x:EV} {v:Value} (h:bK g1 w s1 x v):bK g' w st (x.ren ρ τ) v:=by
 have cJ:∀ {t:Nat},t<s1.ar.length->τ t<st.ar.length:=fun {t} h=>by
  have h1:=(ht t h).1;rw [zaf h] at h1;exact (zad.1 h1).1
 induction h with
 | d a v h=>exact .d _ _ (by rw [Ao];exact h)
 | ref o off h=>rw [←(A9 o h).1];exact .ref _ _ (A9 o h).2
 | JW o off n c h=>rw [←(A9 o h).1];exact .JW _ _ _ _ (A9 o h).2
 | cY sz rows t v el n hd tJ hn hv =>
  have hl:=(zad.1 tJ).1;exact .cY sz rows _ v el n (by rw [Ao];exact hd) (by rw [(ht t hl).1];exact tJ) hn (by rw [(ht t hl).2];exact hv)
 | mp o h=>rw [←(A9 o h).1];exact .mp _ (A9 o h).2
 | wv f cs vs hs h ih =>
  simp only [EV.ren,oQ];refine .wv f _ vs (by simpa using hs) λi c u hc hu=>?_
  rw [zbe] at hc;obtain ⟨c',h1,rfl⟩:=zco.1 hc;exact ih i c' u h1 hu
 | agg cs vs hs h1 h ih =>
  simp only [EV.ren,oQ];refine .agg _ vs (by simpa using hs) h1 λi c u hc hu=>?_
  rw [zbe] at hc;obtain ⟨c',h1,rfl⟩:=zco.1 hc;exact ih i c' u h1 hu
 | eF cs vs hs h ih =>
  simp only [EV.ren,oQ];refine .eF _ vs (by simpa using hs) λi c u hc hu=>?_
  rw [zbe] at hc;obtain ⟨c',h1,rfl⟩:=zco.1 hc;exact ih i c' u h1 hu
 | gd b a v h0 h ih=>exact .gd _ _ v h0 ih
 | vc t k v tJ hf h=>exact .vc _ _ v (cJ tJ) hf λx rows hx=>by rw [(ht t tJ).1] at hx;rw [(ht t tJ).2];exact h x rows hx
 | vp t k i off v tJ hf h=>exact .vp _ _ _ _ v (cJ tJ) hf λx rows hx=>by rw [(ht t tJ).1] at hx;rw [(ht t tJ).2];exact h x rows hx
 | vw t k lo n v tJ hf h=>exact .vw _ _ _ _ v (cJ tJ) hf λx rows hx=>by rw [(ht t tJ).1] at hx;rw [(ht t tJ).2];exact h x rows hx
structure Part (ρ τ:Nat->Nat) (s0 st:St):Prop where
 aQ:∀ (o:Nat) (x:dD),s0.aQ[o]?=some x->st.aQ[ρ o]?=some (x.ren ρ τ)
 ar:∀ (t:Nat) (x:iu),s0.ar[t]?=some x->st.ar[τ t]?=some x
 oinj:∀ o o',ρ o=ρ o'->o=o'
 tinj:∀ t t',τ t=τ t'->t=t'
 ok:∀ (o:Nat) (x:dD),s0.aQ[o]?=some x->kY s0.aQ.length s0.ar.length x=true
theorem Part.live (h:Part ρ τ s0 st) {o:Nat} (hl:s0.live o):st.live (ρ o):=by
 obtain ⟨x,hx,fi⟩:=hl;exact ⟨_,h.aQ o x hx,λe=>fi (dD.Re e)⟩
theorem Part.owned (h:Part ρ τ s0 st) {b:Nat} (ho:uL (g.sub ρ τ) s0 b):uL g st b:=by
 rcases ho with ⟨o,h1,h2⟩|⟨t,x,h1,h2⟩
 ·exact .inl ⟨ρ o,h.live h1,h2⟩
 ·exact .inr ⟨τ t,x,h.ar t x h1,h2⟩
theorem Inv.part {base:Nat} (h:Inv g base w st) (p:Part ρ τ s0 st):Inv (g.sub ρ τ) base w s0:=by
 refine ⟨h.base,λo ty cs hx=>?_,λo es hx=>?_,λo y hx=>h.raw (ρ o) y (p.aQ o _ hx),λo o' fi h1 h2=>h.ne _ _ (λe=>fi (p.oinj o o' e)) (p.live h1) (p.live h2),λt e sz n hx=>h.tail (τ t) e sz n (p.ar t _ hx),
  λt t' x x' b fi h1 h2=>h.oH _ _ x x' b (λe=>fi (p.tinj t t' e)) (p.ar t _ h1) (p.ar t' _ h2),λt x o h1 h2=>h.iT _ x _ (p.ar t _ h1) (p.live h2),h.DO,λt e sz n rows hx=>h.own (τ t) e sz n rows (p.ar t _ hx)⟩
 ·have ho:=p.ok o _ hx;simp only [kY,zaz] at ho;have kq:=p.aQ o _ hx;simp only [dD.ren,oQ] at kq;obtain ⟨h1,h2,vs,h3,h4,h5⟩:=h.row (ρ o) ty _ kq;refine ⟨h1,h2,vs,h3,by simpa using h4,λi c u hc hu=>?_⟩;have:=h5 i (c.ren ρ τ) u (by rw [zbe,hc];rfl) hu;exact ⟨this.1.down p.ar (ho c (zbj hc)),this.2⟩
 ·have ho:=p.ok o _ hx;simp only [kY,zaz] at ho;have kq:=p.aQ o _ hx;simp only [dD.ren] at kq;obtain ⟨h1,ms,c,h3,h4,h5,h6⟩:=h.map (ρ o) _ kq;refine ⟨h1,ms,c,h3,by simpa using h4,λi k x m hm uE=>?_,h6⟩;have:=h5 i k (x.ren ρ τ) m (by rw [zbe,hm];rfl) uE;exact ⟨this.1,this.2.down p.ar (ho (k,x) (zbj hm))⟩
end ren
def cq (st s1:St) (rs ts:List Nat):St :=
 ⟨l9 st.aQ rs (s1.aQ.map (dD.ren (da rs st.aQ.length) (da ts st.ar.length))),l9 st.ar ts s1.ar⟩
theorem Inv.Pt {g g1:b7} {w w1:World} {base:Nat} {st s0 s1:St} {rs ts:List Nat} (h:Inv g base w st) (hr:N1 rs st.aQ.length) (ht:N1 ts st.ar.length)
  (hlr:rs.length=s0.aQ.length) (cJ:ts.length=s0.ar.length)
  (p:Part (da rs st.aQ.length) (da ts st.ar.length) s0 st) (h1:Inv g1 base w1 s1) (hs:Step base (g.sub (da rs st.aQ.length) (da ts st.ar.length)) w s0 g1 w1 s1) :
  ∃ g',Inv g' base w1 (cq st s1 rs ts)/\Step base g w st g' w1 (cq st s1 rs ts) /\
   ∀ x v,bK g1 w1 s1 x v->bK g' w1 (cq st s1 rs ts) (x.ren (da rs st.aQ.length) (da ts st.ar.length)) v:=by
 have zx:rs.length<=s1.aQ.length:=by rw [hlr];exact hs.dB.aQ
 have zV:ts.length<=s1.ar.length:=by rw [cJ];exact hs.dB.Mr
 generalize hN:st.aQ.length=N at *;generalize hM:st.ar.length=M at *;generalize hρ:da rs N=ρ at *;generalize hτ:da ts M=τ at *;have Wz:cq st s1 rs ts=⟨l9 st.aQ rs (s1.aQ.map (dD.ren ρ τ)),l9 st.ar ts s1.ar⟩:=by unfold cq;rw [hN,hM,hρ,hτ]
 rw [Wz];generalize hS:(⟨l9 st.aQ rs (s1.aQ.map (dD.ren ρ τ)),l9 st.ar ts s1.ar⟩:St)=S;have ZG:∀ i,S.aQ[ρ i]?=(s1.aQ[i]?).map (dD.ren ρ τ):=λi=>by
  rw [←hS,←hρ];simp only;rw [Aw rs _ _ N hN hr (by simpa using zx) i,zbe,hρ]
 have T7:∀ i,S.ar[τ i]?=s1.ar[i]?:=λi=>by
  rw [←hS,←hτ];exact Aw ts _ _ M hM ht zV i
 have T8:∀ o,je rs N o=none->S.aQ[o]?=st.aQ[o]?:=λo ho=>by
  obtain ⟨k1,k2⟩:=Ku ho;rw [←hS];exact ta rs _ _ o (by rw [hN];exact k1) λhm=>by
   obtain ⟨j,hj⟩:=zdg.1 hm;refine k2 j ?_;simp [da,hj]
 have ID:∀ t,je ts M t=none->S.ar[t]?=st.ar[t]?:=λt ho=>by
  obtain ⟨k1,k2⟩:=Ku ho;rw [←hS];exact ta ts _ _ t (by rw [hM];exact k1) λhm=>by
   obtain ⟨j,hj⟩:=zdg.1 hm;refine k2 j ?_;simp [da,hj]
 have hSl:N<=S.aQ.length:=by rw [←hS,←hN];show _<=(l9 _ _ _).length;rw [Av rs _ _ (by simpa using zx)];omega
 have hSlt:M<=S.ar.length:=by rw [←hS,←hM];show _<=(l9 _ _ _).length;rw [Av ts _ _ zV];omega
 let g':b7:=⟨g1.lim,λo=>match je rs N o with|some i=>g1.ob i|none=>g.ob o,λt=>match je ts M t with|some i=>g1.tk i|none=>g.tk t⟩
 have Rf:∀ i,g'.ob (ρ i)=g1.ob i:=λi=>by
  show (match je rs N (ρ i) with|some i=>g1.ob i|none=>g.ob (ρ i))=_;rw [←hρ,Em hr i]
 have TE:∀ i,g'.tk (τ i)=g1.tk i:=λi=>by
  show (match je ts M (τ i) with|some i=>g1.tk i|none=>g.tk (τ i))=_;rw [←hτ,Em ht i]
 have GN:∀ o,je rs N o=none->g'.ob o=g.ob o:=λo ho=>by
  show (match je rs N o with|some i=>g1.ob i|none=>g.ob o)=_;rw [ho]
 have IE:∀ t,je ts M t=none->g'.tk t=g.tk t:=λt ho=>by
  show (match je ts M t with|some i=>g1.tk i|none=>g.tk t)=_;rw [ho]
 have Fb:∀ {o i:Nat},je rs N o=some i->o=ρ i:=fun {o i} e=>by rw [←hρ];exact (Fa e).symm
 have IF:∀ {t i:Nat},je ts M t=some i->t=τ i:=fun {t i} e=>by rw [←hτ];exact (Fa e).symm
 have up:∀ {x:EV} {v:Value},bK g1 w1 s1 x v->bK g' w1 S (x.ren ρ τ) v:=fun {x v} hx=>by
  refine bK.up (λo ho=>⟨Rf o,?_⟩) rfl (λt ht=>⟨T7 t,TE t⟩) hx;have e:=ZG o;rw [zaf ho] at e;exact (zad.1 e).1
 -- what the call does not own
 have Kv:∀ b,b<w.heap.size->¬ uL (g.sub ρ τ) s0 b->w1.heap[b]?=w.heap[b]?/\g1.lim b=g.lim b:=hs.frame;have Ht:∀ b,b<w.heap.size->uL g1 s1 b->uL (g.sub ρ τ) s0 b:=hs.fresh;have uo:∀ o,je rs N o=none->st.live o->g.ob o<w.heap.size/\¬ uL (g.sub ρ τ) s0 (g.ob o):=λo ho hl=>by
  refine ⟨(h.wB hl).1,λhw=>?_⟩;rcases hw with ⟨i,a1,a2⟩|⟨t,x,a1,a2⟩
  ·have fi:ρ i≠o:=λe=>by rw [←e,←hρ,Em hr i] at ho;cases ho
   exact h.ne _ _ fi (p.live a1) hl a2
  ·exact h.iT _ x o (p.ar t x a1) hl a2
 have ut:∀ t x b,je ts M t=none->st.ar[t]?=some x->(g.tk t).ownBlock=some b->b<w.heap.size/\¬ uL (g.sub ρ τ) s0 b:=λt x b ho hx hb=>by
  refine ⟨(h.wz hx hb).2,λhw=>?_⟩;rcases hw with ⟨i,a1,a2⟩|⟨i,y,a1,a2⟩
  ·exact h.iT t x _ hx (p.live a1) (by rw [hb];exact zbq some a2.symm)
  ·have fi:τ i≠t:=λe=>by rw [←e,←hτ,Em ht i] at ho;cases ho
   exact h.oH _ _ y x b fi (p.ar i y a1) hx a2 hb
 have s0o:∀ {o i:Nat},je rs N o=some i->o<N->i<s0.aQ.length:=fun {o i} e ho=>by rw [←hlr];exact Hs hr e ho
 have s0t:∀ {t i:Nat},je ts M t=some i->t<M->i<s0.ar.length:=fun {t i} e ho=>by rw [←cJ];exact Hs ht e ho
 have WA:∀ {i:Nat},i<s0.ar.length->∀ {x:iu},st.ar[τ i]?=some x->s0.ar[i]?=some x:=fun {i} hi {x} hx=>by
  have e:=p.ar i _ (zaf hi);rw [hx] at e;cases e;exact zaf hi
 have T9:u9 g w st g' w1 S:=by
  refine ⟨hs.dB.cX,λo ho=>?_,by rw [hN];exact hSl,λt e sz n hx=>?_,by rw [hM];exact hSlt,λt x' bO j0 hx ho=>?_⟩
  ·cases hi:je rs N o with
   | none=>exact GN o hi
   | some i =>
    have:=Fb hi;subst this;rw [Rf,hs.dB.ob i (s0o hi (by omega))];rfl
  ·cases hi:je ts M t with
   | none=>exact ⟨n,by rw [ID t hi];exact hx,zar _,λ_=>IE t hi⟩
   | some i =>
    have:=IF hi;subst this;have jJ:=s0t hi (by rw [←hM];exact (zad.1 hx).1);obtain ⟨n',a1,a2,a3⟩:=hs.dB.ar i e sz n (WA jJ hx);exact ⟨n',by rw [T7];exact a1,a2,λe'=>by rw [TE,a3 e'];rfl⟩
  ·cases hi:je ts M t with
   | none =>
    rw [ID t hi] at hx;exact ⟨x',bO,hx,ho,rfl,zar _,λ_=>IE t hi⟩
   | some i =>
    have:=IF hi;subst this;have jJ:=s0t hi (by omega);rw [T7] at hx;obtain ⟨x,rows,a1,a2,a3,a4,a5⟩:=hs.dB.own i x' bO jJ hx ho;exact ⟨x,rows,p.ar i x a1,a2,a3,a4,λe'=>by rw [TE,a5 e'];rfl⟩
 have oN:∀ {o i:Nat},je rs N o=some i->S.live o->s1.live i:=fun {o i} hi ⟨x,hx,fi⟩=>by
  have:=Fb hi;subst this;rw [ZG] at hx;obtain ⟨y,hy,rfl⟩:=zco.1 hx;exact ⟨y,hy,λe=>fi (by subst e;rfl)⟩
 have Cy:∀ {o:Nat},je rs N o=none->S.live o->st.live o:=fun {o} hi ⟨x,hx,fi⟩=>⟨x,by rw [T8 o hi] at hx;exact hx,fi⟩;refine ⟨g',⟨h1.base,?_,?_,?_,?_,?_,?_,?_,h1.DO,?_⟩,⟨T9,hs.below,hs.lim,λb hb hn=>Kv b hb λhw=>hn (p.owned hw),λb hb hw=>?_⟩,λx v hx=>up hx⟩
 ·intro o ty cs hx;cases hi:je rs N o with
  | none =>
   rw [T8 o hi] at hx;obtain ⟨k1,k2,vs,k3,k4,k5⟩:=h.row o ty cs hx;obtain ⟨u1,u2⟩:=uo o hi ⟨_,hx,by simp⟩;obtain ⟨f1,f2⟩:=Kv _ u1 u2;rw [GN o hi];exact ⟨k1,f2.trans k2,vs,f1.trans k3,k4,λi c u hc hu=>⟨(k5 i c u hc hu).1.mono T9,(k5 i c u hc hu).2⟩⟩
  | some i =>
   have:=Fb hi;subst this;rw [ZG] at hx;obtain ⟨y,hy,ZH⟩:=zco.1 hx;cases y <;> simp only [dD.ren] at ZH <;> cases ZH;obtain ⟨k1,k2,vs,k3,k4,k5⟩:=h1.row i ty _ hy;rw [Rf];refine ⟨k1,k2,vs,k3,by rw [oQ];simpa using k4,λj c u hc hu=>?_⟩
   rw [oQ,zbe] at hc;obtain ⟨c',sF,rfl⟩:=zco.1 hc;exact ⟨up (k5 j c' u sF hu).1,(k5 j c' u sF hu).2⟩
 ·intro o es hx;cases hi:je rs N o with
  | none =>
   rw [T8 o hi] at hx;obtain ⟨k1,ms,c,k3,k4,k5,k6⟩:=h.map o es hx;obtain ⟨u1,u2⟩:=uo o hi ⟨_,hx,by simp⟩;obtain ⟨f1,f2⟩:=Kv _ u1 u2;rw [GN o hi];exact ⟨k1,ms,c,f1.trans k3,k4,λi k x m a b=>⟨(k5 i k x m a b).1,(k5 i k x m a b).2.mono T9⟩,k6⟩
  | some i =>
   have:=Fb hi;subst this;rw [ZG] at hx;obtain ⟨y,hy,ZH⟩:=zco.1 hx;cases y <;> simp only [dD.ren] at ZH <;> cases ZH;obtain ⟨k1,ms,c,k3,k4,k5,k6⟩:=h1.map i _ hy;rw [Rf];refine ⟨k1,ms,c,k3,by simpa using k4,λj k x m hm uE=>?_,k6⟩;rw [zbe] at hm;obtain ⟨q,hq,hqe⟩:=zco.1 hm;cases hqe;have:=k5 j q.1 q.2 m hq uE;exact ⟨this.1,up this.2⟩
 ·intro o y hx;cases hi:je rs N o with
  | none =>
   rw [T8 o hi] at hx;obtain ⟨k1,k2,k3⟩:=h.raw o y hx;obtain ⟨u1,u2⟩:=uo o hi ⟨_,hx,by simp⟩;obtain ⟨f1,f2⟩:=Kv _ u1 u2;rw [GN o hi];exact ⟨k1,f2.trans k2,f1.trans k3⟩
  | some i =>
   have:=Fb hi;subst this;rw [ZG] at hx;obtain ⟨z,hz,NX⟩:=zco.1 hx;cases z <;> simp only [dD.ren] at NX <;> cases NX;rw [Rf];exact h1.raw i _ hz
 ·intro o o' fi ho mX;have Kw:∀ {a b i:Nat},je rs N a=some i->je rs N b=none->S.live a->S.live b->g'.ob a≠g'.ob b:=fun {a b i} ha hb la lb e=>by
   have:=Fb ha;subst this;rw [Rf,GN b hb] at e;obtain ⟨u1,u2⟩:=uo b hb (Cy hb lb);exact u2 (Ht _ u1 (.inl ⟨i,oN ha la,e⟩))
  cases hi:je rs N o with
  | none =>
   cases hj:je rs N o' with
   | none=>rw [GN o hi,GN o' hj];exact h.ne o o' fi (Cy hi ho) (Cy hj mX)
   | some j=>exact (Kw hj hi mX ho).symm
  | some i =>
   cases hj:je rs N o' with
   | none=>exact Kw hi hj ho mX
   | some j =>
    have l1:=oN hi ho;have l2:=oN hj mX;have:=Fb hi;subst this;have:=Fb hj;subst this;rw [Rf,Rf];exact h1.ne i j (λe=>fi (by rw [e])) l1 l2
 ·intro t e sz n hx;cases hi:je ts M t with
  | none =>
   rw [ID t hi] at hx;obtain ⟨xs,k1,k2⟩:=h.tail t e sz n hx;rw [IE t hi];exact ⟨xs,fv k1 λb hb=>(Kv b (ut t _ b hi hx hb).1 (ut t _ b hi hx hb).2).1,λb hb=>by rw [←k2 b hb];exact (Kv b (ut t _ b hi hx hb).1 (ut t _ b hi hx hb).2).2⟩
  | some i =>
   have:=IF hi;subst this;rw [T7] at hx;rw [TE];exact h1.tail i e sz n hx
 ·intro t t' x x' b fi hx kq hb;have Kw:∀ {a c i:Nat} {x x':iu},je ts M a=some i->je ts M c=none->S.ar[a]?=some x->S.ar[c]?=some x'->(g'.tk a).ownBlock=some b->(g'.tk c).ownBlock=some b->False:=fun {a c i x x'} ha hc la lc ea ec=>by
   have:=IF ha;subst this;rw [TE] at ea;rw [IE c hc] at ec;rw [T7] at la;rw [ID c hc] at lc;obtain ⟨u1,u2⟩:=ut c _ b hc lc ec;exact u2 (Ht b u1 (.inr ⟨i,_,la,ea⟩))
  cases hi:je ts M t with
  | none =>
   cases hj:je ts M t' with
   | none =>
    rw [IE t hi] at hb;rw [IE t' hj];rw [ID t hi] at hx;rw [ID t' hj] at kq;exact h.oH t t' x x' b fi hx kq hb
   | some j=>exact λjZ=>Kw hj hi kq hx jZ hb
  | some i =>
   cases hj:je ts M t' with
   | none=>exact λjZ=>Kw hi hj hx kq hb jZ
   | some j =>
    have:=IF hi;subst this;have:=IF hj;subst this;rw [TE] at hb;rw [TE];rw [T7] at hx kq;exact h1.oH i j x x' b (λe=>fi (by rw [e])) hx kq hb
 ·intro t x o hx ho hb;cases hi:je ts M t with
  | none =>
   rw [IE t hi] at hb;rw [ID t hi] at hx;cases hj:je rs N o with
   | none =>
    rw [GN o hj] at hb;exact h.iT t x o hx (Cy hj ho) hb
   | some j =>
    have l2:=oN hj ho;have:=Fb hj;subst this;rw [Rf] at hb;obtain ⟨u1,u2⟩:=ut t _ _ hi hx hb;exact u2 (Ht _ u1 (.inl ⟨j,l2,rfl⟩))
  | some i =>
   have:=IF hi;subst this;rw [TE] at hb;rw [T7] at hx;cases hj:je rs N o with
   | none =>
    rw [GN o hj] at hb;obtain ⟨u1,u2⟩:=uo o hj (Cy hj ho);exact u2 (Ht _ u1 (.inr ⟨i,_,hx,hb⟩))
   | some j =>
    have l2:=oN hj ho;have:=Fb hj;subst this;rw [Rf] at hb;exact h1.iT i x j hx l2 hb
 ·intro t e sz n rows hx;cases hi:je ts M t with
  | none =>
   rw [ID t hi] at hx;obtain ⟨xs,k1,k2,k3⟩:=h.own t e sz n rows hx;rw [IE t hi];exact ⟨xs,fv k1 λb hb=>(Kv b (ut t _ b hi hx hb).1 (ut t _ b hi hx hb).2).1,λb hb=>by rw [←k2 b hb];exact (Kv b (ut t _ b hi hx hb).1 (ut t _ b hi hx hb).2).2,k3.mono T9.cX⟩
  | some i =>
   have:=IF hi;subst this;rw [T7] at hx;rw [TE];exact h1.own i e sz n rows hx
 ·rcases hw with ⟨o,a1,a2⟩|⟨t,x,a1,a2⟩
  ·cases hi:je rs N o with
   | none=>exact .inl ⟨o,Cy hi a1,by rw [←GN o hi];exact a2⟩
   | some i =>
    have l1:=oN hi a1;have:=Fb hi;subst this;rw [Rf] at a2;exact p.owned (Ht b hb (.inl ⟨i,l1,a2⟩))
  ·cases hi:je ts M t with
   | none =>
    rw [IE t hi] at a2;rw [ID t hi] at a1;exact .inr ⟨t,x,a1,a2⟩
   | some i =>
    have:=IF hi;subst this;rw [TE] at a2;rw [T7] at a1;exact p.owned (Ht b hb (.inr ⟨i,x,a1,a2⟩))
def wM:List EV->List EV->Prop
 | [],[]=>True
 | e::es,x::xs=>eG e x/\wM es xs
 | _,_=>False
theorem wM.get:∀ {es xs:List EV},wM es xs->es.length=xs.length/\∀ (i:Nat) x,xs[i]?=some x->∃ e,es[i]?=some e/\eG e x
 | [],[],_=>⟨rfl,λi y h=>by simp at h⟩
 | e::es,d::ds,h=>by
  obtain ⟨h1,h2⟩:=wM.get h.2;refine ⟨by simp [h1],λi z hz=>?_⟩;cases i with
  | zero=>simp at hz;subst hz;exact ⟨e,rfl,h.1⟩
  | succ i=>simpa using h2 i z (by simpa using hz)
 | [],_::_,h=>h.elim
 | _::_,[],h=>h.elim
theorem aR.le {P:Program} {f:FuncId} {es xs:List EV} {st:St} {q:EV->St->Prop} (h:aR P f xs st q) (hle:wM es xs):aR P f es st q:=by
 intro g w base vs hi ha;obtain ⟨h1,h2⟩:=hle.get;refine h g w base vs hi ⟨by rw [ha.1,h1],λi x v hx hv=>?_⟩;obtain ⟨e,he,hl⟩:=h2 i x hx;exact hl _ _ _ _ (ha.2 i e v he hv)
section call
variable {P:Program} {f:Ctx} {N:Nat} {S:Start} {Q:EV->St->Prop} {k:List Item} {env:Env} {st:St} {ops rest:List Oper}
 {d:Option Tmp} {ty:TypeId} {pos:String} {after:Array Edge}
def QE (x:EV) (st':St) (e:EV) (s:St):Prop:=eG e x/\s=st'
def zW (rs ts:List Nat) (s0 st:St):Bool :=
 Ps rs st.aQ.length && Ps ts st.ar.length && Nat.beq rs.length s0.aQ.length && Nat.beq ts.length s0.ar.length
theorem Part.of {rs ts:List Nat} {s0 st:St} (h:zW rs ts s0 st=true) (h5:s0.aQ.all (kY s0.aQ.length s0.ar.length)=true)
  (ho:rs.map (λr=>st.aQ[r]?)=s0.aQ.map (λx=>some (x.ren (da rs st.aQ.length) (da ts st.ar.length)))) (ht:ts.map (λr=>st.ar[r]?)=s0.ar.map some) :
  Part (da rs st.aQ.length) (da ts st.ar.length) s0 st/\N1 rs st.aQ.length/\N1 ts st.ar.length/\rs.length=s0.aQ.length/\ts.length=s0.ar.length:=by
 simp only [zW,zaq] at h;rw [zaz] at h5;obtain ⟨⟨⟨h1,h2⟩,h3⟩,h4⟩:=h;have e1:=N1.of h1;have e2:=N1.of h2;have l1:=zav h3;have l2:=zav h4;refine ⟨⟨λo x hx=>?_,λt x hx=>?_,λo o' e=>IB e1 e,λt t' e=>IB e2 e,λo x hx=>h5 x (zbj hx)⟩,e1,e2,l1,l2⟩
 ·have cJ:o<rs.length:=by rw [l1];exact (zad.1 hx).1
  have:=zbq (λl=>l[o]?) ho;simp only [zbe,(Cx e1 cJ).2,hx,Option.map_some,Option.some.injEq] at this;exact this
 ·have cJ:t<ts.length:=by rw [l2];exact (zad.1 hx).1
  have:=zbq (λl=>l[t]?) ht;simp only [zbe,(Cx e2 cJ).2,hx,Option.map_some,Option.some.injEq] at this;exact this
theorem aR.frame {f:FuncId} {args:List EV} {s0 s1:St} {e1:EV} (rs ts:List Nat) (h:aR P f args s0 (QE e1 s1)) (hp:zW rs ts s0 st=true) (h5:s0.aQ.all (kY s0.aQ.length s0.ar.length)=true) (tO:args.all (pZ s0.aQ.length s0.ar.length)=true)
  (ho:rs.map (λr=>st.aQ[r]?)=s0.aQ.map (λx=>some (x.ren (da rs st.aQ.length) (da ts st.ar.length)))) (ht:ts.map (λr=>st.ar[r]?)=s0.ar.map some) :
  aR P f (args.map (EV.ren (da rs st.aQ.length) (da ts st.ar.length))) st (QE (e1.ren (da rs st.aQ.length) (da ts st.ar.length)) (cq st s1 rs ts)):=by
 obtain ⟨p,YW,Mn,l1,l2⟩:=Part.of hp h5 ho ht;intro g w base vs hi ha;rw [zaz] at tO;refine (h (g.sub _ _) w base vs (hi.part p) ⟨by have:=ha.1;simpa using this,λi x v hx hv=>?_⟩).mono ?_
 ·exact (ha.2 i _ v (by rw [zbe,hx];rfl) hv).down p.ar (tO x (zbj hx))
 ·rintro e w' ⟨v,r,s,g1,rfl,⟨hle,rfl⟩,hr,hinv,hh⟩;obtain ⟨g',k1,k2,k3⟩:=hi.Pt YW Mn l1 l2 p hinv hh.toStep;exact ⟨v,_,_,g',rfl,⟨.ak _,rfl⟩,k3 _ _ (hle _ _ _ _ hr),k1,⟨k2.dB,k2.below,k2.lim,k2.frame,k2.fresh⟩⟩
theorem aR.mj {f:FuncId} {args:List EV} {x:EV} {st':St} (h:aR P f args st λe s=>∃ (rs ts:List Nat),zW rs ts st' s=true/\st'.aQ.all (kY st'.aQ.length st'.ar.length)=true/\pZ st'.aQ.length st'.ar.length x=true/\(Nat.ble st.aQ.length rs.length && Nat.ble st.ar.length ts.length)=true /\
   rs.take st.aQ.length=List.range st.aQ.length/\ts.take st.ar.length=List.range st.ar.length /\
   rs.map (λr=>s.aQ[r]?)=st'.aQ.map (λy=>some (y.ren (da rs s.aQ.length) (da ts s.ar.length)))/\ts.map (λr=>s.ar[r]?)=st'.ar.map some /\
   eG e (x.ren (da rs s.aQ.length) (da ts s.ar.length))):aR P f args st (QE x st'):=by
 intro g w base vs hi ha;refine (h g w base vs hi ha).mono ?_;rintro e w' ⟨v,r,s,g1,rfl,⟨rs,ts,hp,h5,hx,hl,T0,TZ,ho,ht,hle⟩,hr,hinv,hh⟩;obtain ⟨p,YW,Mn,l1,l2⟩:=Part.of hp h5 ho ht;simp only [zaq] at hl;have zx:=zae hl.1;have zV:=zae hl.2;have same:∀ {l:List Nat} {n N:Nat},l.take n=List.range n->n<=l.length->∀ i,i<n->da l N i=i:=fun {l n N} hl hn i hi=>by
  have e:(l.take n)[i]?=some i:=by rw [hl,List.getElem?_range hi]
  rw [zal,zaa hi] at e;simp [da,e]
 have so:=λi hi=>same (N:=s.aQ.length) T0 zx i hi
 have N2:=λi hi=>same (N:=s.ar.length) TZ zV i hi
 have Dq:∀ {i:Nat},i<st'.ar.length->st'.ar[i]?=s.ar[da ts s.ar.length i]?:=fun {i} hi=>by
  rw [p.ar i _ (zaf hi),zaf hi]
 refine ⟨v,x,st',g1.sub _ _,rfl,⟨.ak _,rfl⟩,(hle _ _ _ _ hr).down p.ar hx,hinv.part p,⟨⟨hh.dB.cX,λo mX=>?_,(by show st.aQ.length<=_;omega),λt e sz n hx=>?_,(by show st.ar.length<=_;omega),λt x' bO cJ kq mX=>?_⟩,hh.below,hh.lim,hh.frame,λb hb hw=>hh.fresh b hb (p.owned hw)⟩⟩
 ·show g1.ob (da rs s.aQ.length o)=g.ob o;rw [so o mX];exact hh.dB.ob o mX
 ·have cJ:t<st.ar.length:=(zad.1 hx).1;obtain ⟨n',a1,a2,a3⟩:=hh.dB.ar t e sz n hx;refine ⟨n',?_,a2,λe'=>?_⟩
  ·rw [Dq (by omega),N2 t cJ];exact a1
  ·show g1.tk (da ts s.ar.length t)=g.tk t;rw [N2 t cJ];exact a3 e'
 ·rw [Dq (by have:=(zad.1 kq).1;exact this),N2 t cJ] at kq;obtain ⟨y,rows,a1,a2,a3,a4,a5⟩:=hh.dB.own t x' bO cJ kq mX;refine ⟨y,rows,a1,a2,a3,a4,λe'=>?_⟩;show g1.tk (da ts s.ar.length t)=g.tk t;rw [N2 t cJ];exact a5 e'
end call
section call
variable {P:Program} {f:Ctx} {N:Nat} {S:Start} {Q:EV->St->Prop} {k:List Item} {env:Env} {st:St} {ops rest:List Oper}
 {d:Option Tmp} {ty:TypeId} {pos:String} {after:Array Edge}
theorem Kx {d:Option Tmp} {x r:EV} (hle:eG x r) (h:cn P f N S Q ops rest k (env.put d r) st):cn P f N S Q ops rest k (env.put d x) st:=by
 cases d with
 | none=>exact h
 | some t =>
  intro i hi g w tmps hinv hh he hn;refine h i hi g w tmps hinv hh (λj y hy=>?_) hn;unfold Env.put lookup at hy;cases hb:Nat.beq j t with
  | true =>
   rw [hb] at hy;simp only [Option.some.injEq] at hy;subst hy;have:=zav hb;subst this;obtain ⟨v,h1,h2⟩:=he j x (by unfold Env.put lookup;rw [zfb]);exact ⟨v,h1,hle _ _ _ _ h2⟩
  | false =>
   rw [hb] at hy;exact he j y (by unfold Env.put lookup;rw [hb];exact hy)
theorem cn.fJ {f':FuncId} {l:List Operand} {ts:Array TypeId} {Rg es:List EV} {x r:EV} {s0 s1 st':St} (DP:Enters P f') (hd:gD N d=true) (rs tk:List Nat)
  (h1:Co env l=some es) (hc:aR P f' Rg s0 (QE r s1)) (hle:wM es (Rg.map (EV.ren (da rs st.aQ.length) (da tk st.ar.length))))
  (hp:(zW rs tk s0 st && Rg.all (pZ s0.aQ.length s0.ar.length))=true) (h5:s0.aQ.all (kY s0.aQ.length s0.ar.length)=true)
  (ho:rs.map (λr=>st.aQ[r]?)=s0.aQ.map (λx=>some (x.ren (da rs st.aQ.length) (da tk st.ar.length)))) (ht:tk.map (λr=>st.ar[r]?)=s0.ar.map some)
  (hx:r.ren (da rs st.aQ.length) (da tk st.ar.length)=x) (hs:cq st s1 rs tk=st')
  (hk:cn P f N S Q ops rest k (env.put d x) st') :
  cn P f N S Q ops (⟨d,.call ⟨.value (.func f'),l.toArray,ts⟩,ty,pos,after,none⟩::rest) k env st:=by
 simp only [zaq] at hp;refine .Zj DP hd h1 ((hc.frame rs tk hp.1 h5 hp.2 ho ht).le hle) λy s hq=>?_
 obtain ⟨hle,rfl⟩:=hq;rw [hx] at hle;rw [hs];exact Kx hle hk
theorem cn.Fc {f':FuncId} {l:List Operand} {ts:Array TypeId} {Rg es cs:List EV} {x r:EV} {y:Operand} {s0 s1 st':St} (DP:Enters P f') (hd:gD N d=true) (hy:cX env y=some (.wv f' cs)) (rs tk:List Nat)
  (h1:Co env l=some es) (hc:aR P f' Rg s0 (QE r s1)) (hle:wM (es++cs) (Rg.map (EV.ren (da rs st.aQ.length) (da tk st.ar.length))))
  (hp:(zW rs tk s0 st && Rg.all (pZ s0.aQ.length s0.ar.length))=true) (h5:s0.aQ.all (kY s0.aQ.length s0.ar.length)=true)
  (ho:rs.map (λr=>st.aQ[r]?)=s0.aQ.map (λx=>some (x.ren (da rs st.aQ.length) (da tk st.ar.length)))) (ht:tk.map (λr=>st.ar[r]?)=s0.ar.map some)
  (hx:r.ren (da rs st.aQ.length) (da tk st.ar.length)=x) (hs:cq st s1 rs tk=st')
  (hk:cn P f N S Q ops rest k (env.put d x) st') :
  cn P f N S Q ops (⟨d,.call ⟨.value y,l.toArray,ts⟩,ty,pos,after,none⟩::rest) k env st:=by
 simp only [zaq] at hp;have sF:=(hc.frame rs tk hp.1 h5 hp.2 ho ht).le hle;refine .A8 DP hd hy h1 sF λy s hq=>?_
 obtain ⟨hle,rfl⟩:=hq;rw [hx] at hle;rw [hs];exact Kx hle hk
end call
theorem aA {n m:Nat} {x:dD} {l:List dD} (h1:kY n m x=true) (h2:l.all (kY n m)=true):(x::l).all (kY n m)=true:=by
 simp [h1];simpa using h2
theorem mL {a b:Bool} (h1:a=true) (h2:b=true):(a && b)=true:=by rw [h1,h2];rfl
section tok
variable {P:Program} {f:Ctx} {N:Nat} {S:Start} {Q:EV->St->Prop} {k:List Item} {todo:List Item} {env:Env} {st:St} {ops rest:List Oper}
theorem Inv.rG {g:b7} {base o ci:Nat} {w:World} {T:TypeId} {cs:List EV} (h:Inv g base w st) (ho:st.aQ[o]?=some (.row T cs)) (hc:cs[ci]?=some (.d (.ex (.slice none 0 0)))) (e sz:Nat) :
  ∃ g',Inv g' base w ((st.tok ⟨e,sz,0,none⟩).set o (.row T (cs.set ci (.cY sz [] st.ar.length))))/\Step base g w st g' w ((st.tok ⟨e,sz,0,none⟩).set o (.row T (cs.set ci (.cY sz [] st.ar.length)))):=by
 obtain ⟨g1,h1,h2,h3⟩:=h.Is e sz;have Gx:(st.tok ⟨e,sz,0,none⟩).aQ[o]?=some (.row T cs):=ho;obtain ⟨b1,b2,vs,b3,b4,b5⟩:=h2.row o T cs Gx;obtain ⟨hi,hs⟩:=h2.setBlock (o:=o) (x:=.row T (cs.set ci (.cY sz [] st.ar.length))) (w':=w) ⟨_,Gx,by simp⟩ b2 rfl (λ_ _=>rfl) rfl rfl rfl
  (λQO My DR kq=>by
   cases kq;refine ⟨vs,b3,by simpa using b4,λi c u qK hu=>?_⟩;rw [zbl] at qK;split at qK
   ·rename_i Vk;subst Vk;split at qK
    ·cases qK;have h0:=b5 ci _ u hc hu;refine ⟨?_,h0.2⟩;have hu0:u=.slice none 0 0:=h0.1.bN;subst hu0;exact .cY sz [] _ _ e 0 (.nil sz _) (by simp [St.tok,St.set]) (zar _) (λ_=>.inl h1.symm)
    ·cases qK
   ·have h0:=b5 i c u qK hu;exact ⟨h0.1.mono QO,h0.2⟩) (λ_ es kq=>by cases kq)
 exact ⟨g1,hi,h3.trans hs⟩
theorem bt.rG {o ci e sz:Nat} {T:TypeId} {cs:List EV} (ho:st.aQ[o]?=some (.row T cs)) (hc:cs[ci]?=some (.d (.ex (.slice none 0 0))))
  (h:bt P f N S Q todo env ((st.tok ⟨e,sz,0,none⟩).set o (.row T (cs.set ci (.cY sz [] st.ar.length))))):bt P f N S Q todo env st:=by
 intro g w tmps hinv hh he hn;obtain ⟨g',h1,h2⟩:=hinv.rG ho hc e sz;exact h g' w tmps h1 (hh.step h2) (he.mono h2.dB) hn
theorem cn.rG {o ci e sz:Nat} {T:TypeId} {cs:List EV} (ho:st.aQ[o]?=some (.row T cs)) (hc:cs[ci]?=some (.d (.ex (.slice none 0 0))))
  (h:cn P f N S Q ops rest k env ((st.tok ⟨e,sz,0,none⟩).set o (.row T (cs.set ci (.cY sz [] st.ar.length))))):cn P f N S Q ops rest k env st :=
 λj hj=>.rG ho hc (h j hj)
end tok
section rules
variable {P:Program} {base:Nat} {env:Env} {st:St} {d:Option Tmp} {ty:TypeId} {pos:String} {after:Array Edge} {gd:Option (Nat×Bool)} {t:TypeId} {x:Operand}
theorem eM {o off:Nat} (hx:cX env x=some (.ref o off)):aL P env st ⟨d,.nilCheck x,ty,pos,after,gd⟩ (.ref o off):=λg base w tmps hi he=>by
 have h:=aP he hx;generalize hv:Act.eval ⟨tmps,[]⟩ x=v at h;cases h with
 | ref _ _ cJ=>exact ⟨_,.ref _ _ cJ,λw' _=>by simp [execOp,hv]⟩
end rules
section rep
variable {g:b7} {base:Nat} {w:World} {st:St}
theorem sV (h:Inv g base w st) {t e sz n:Nat} {rows:List (List D)} {v:Value} (fc:st.ar[t]?=some ⟨e,sz,n,some rows⟩) (hv:bK g w st (.vc t n) v) :
  v=g.tk t∨(n=0/\rows=[]/\∃ A,v=.slice A 0 0):=by
 cases hv with
 | vc _ _ _ ht hf hh =>
  rcases (hh _ rows fc rfl).2 rfl with h1|⟨h1,h3⟩
  ·exact .inl h1
  ·obtain ⟨xs,_,_,k⟩:=h.own t e sz n rows fc;exact .inr ⟨h1,zbc (by rw [k.len];exact h1),h3⟩
theorem IG (h:Inv g base w st) {t e sz n:Nat} {rows:List (List D)} {v:Value} (fc:st.ar[t]?=some ⟨e,sz,n,some rows⟩) (hv:v=g.tk t) :
  v=g.tk t/\∃ xs,w.ownsRow base e sz v n xs/\(∀ b,v.ownBlock=some b->g.lim b=0)/\dn g.lim w sz n rows xs:=by
 subst hv;exact ⟨rfl,h.own t e sz n rows fc⟩
theorem Rh {t e sz:Nat} {rows:List (List D)} {v:Value} (cJ:t<st.ar.length) (fc:st.ar[t]?=some ⟨e,sz,0,some rows⟩) (hv:∃ A,v=.slice A 0 0):bK g w st (.vc t 0) v :=
 .vc t 0 _ cJ (by obtain ⟨A,rfl⟩:=hv;exact ⟨_,_,_,rfl⟩) λx bO hx ho=>by rw [fc] at hx;cases hx;exact ⟨zar _,λ_=>.inr ⟨rfl,hv⟩⟩
theorem jk {w:World} {base e sz n:Nat} {v:Value} {xs:List Value} (h:w.ownsRow base e sz v n xs):(∃ A c,v=.slice A n c)/\(n≠0->∃ b c,v=.slice (some ⟨b,0,none⟩) n c):=by
 rcases h.2 with ⟨rfl,rfl⟩|⟨b,cap,cur,rfl,_⟩
 ·exact ⟨⟨_,_,rfl⟩,λh0=>absurd rfl h0⟩
 ·exact ⟨⟨_,_,rfl⟩,λ_=>⟨_,_,rfl⟩⟩
theorem dn.get {lim:Nat->Nat} {sz n:Nat} {rows:List (List D)} {xs:List Value} (h:dn lim w sz n rows xs) (hx:xs.length=n*sz) {i j:Nat} {row:List D} {c:D} (hi:rows[i]?=some row) (hj:row[j]?=some c) :
  ∃ u,xs[i*sz+j]?=some u/\dA lim w c u/\u.oneCell'=true:=by
 have hl:=h.row row (zbj hi);have cJ:i*sz+j<xs.length:=by
  rw [hx,←h.len];exact Il (zad.1 hi).1 (by rw [←hl];exact (zad.1 hj).1)
 exact ⟨_,zaf cJ,h.rep _ c _ (kX h.row hi hj) (zaf cJ)⟩
theorem Pu {P:Program} {e sz n b cap:Nat} {xs:List Value} (h:w.ownsRow base e sz (.slice (some ⟨b,0,none⟩) n cap) n xs) (off:Nat) (new:List Value) (Ba:off+new.length<=n*sz) (h1:∀ v∈new,v.oneCell'=true) :
  ∃ w',(storeCells ⟨b,off,none⟩ new 0).run P w=.ok () w'/\w'.ownsRow base e sz (.slice (some ⟨b,0,none⟩) n cap) n (xs.take off++new++xs.drop (off+new.length))/\w.grownBy w' (some b)/\w'.heap.size=w.heap.size:=by
 rcases h.2 with ⟨h',_⟩|⟨g',cap',cur,h',hb,hg,DS,zu,yU,NU⟩
 ·cases h'
 ·cases h';have hle:n*sz<=cap*sz:=zcz _ DS;have mA:=run_storeCells_at P b off e new 0 cur w hg (by simp;omega) h1;simp only [zdn] at mA;refine ⟨_,mA,⟨?_,.inr ⟨b,cap,_,rfl,hb,setRow_heap w b cur _ e (0,0) hg,DS,zu,?_,?_⟩⟩,⟨rfl,rfl,rfl,by simp,λk _ hk=>setRow_other w b k _ (λe=>hk (by rw [e]))⟩,by simp⟩
  ·have:=h.1;simp;omega
  ·simp;omega
  ·have hx:=h.1;apply zcm;intro j;simp only [zdf];rw [zal];have ZI:∀ j,j<n*sz->cur.toList[j]?=xs[j]?:=λj hj=>by rw [←NU,zal,zaa hj]
   by_cases hj:j<n*sz
   ·rw [zaa hj];by_cases h1:j<off
    ·rw [zat,zat,zao (by simp;omega),zao (by simp;omega),zal,zal,zaa h1,zaa h1];exact ZI j hj
    ·by_cases h2:j<off+new.length
     ·have key:∀ l r:List Value,l.length=off->(l++new++r)[j]?=new[j-off]?:=λl r hl=>by
       rw [zat,zaw (by omega),hl,zao (by omega)]
      rw [key _ _ (by simp;omega),key _ _ (by simp;omega)]
     ·have key:∀ l r:List Value,l.length=off->(l++new++r)[j]?=r[j-(off+new.length)]?:=λl r hl=>by
       rw [zaw (by simp;omega)];congr 1;simp;omega
      rw [key _ _ (by simp;omega),key _ _ (by simp;omega),zbd,zbd];have e3:off+new.length+(j-(off+new.length))=j:=by omega
      rw [e3];exact ZI j hj
   ·rw [zab hj];rw [zbp];simp;omega
theorem MH {lim:Nat->Nat} {sz n:Nat} {rows:List (List D)} {xs us:List Value} (h:dn lim w sz n rows xs) (hx:xs.length=n*sz) {i off:Nat} {row new:List D} (hi:rows[i]?=some row) (Zl:off+new.length<=sz)
  (hu:us.length=new.length) (mY:∀ (j:Nat) c u,new[j]?=some c->us[j]?=some u->dA lim w c u/\u.oneCell'=true) :
  dn lim w sz n (rows.set i (row.take off++new++row.drop (off+new.length))) (xs.take (i*sz+off)++us++xs.drop (i*sz+off+us.length)):=by
 have Wq:=h.row row (zbj hi);have Dr:i<rows.length:=(zad.1 hi).1;have WC:(row.take off++new++row.drop (off+new.length)).length=sz:=by simp;omega
 have j5:∀ r,r∈rows.set i (row.take off++new++row.drop (off+new.length))->r.length=sz:=λr hr=>by
  rcases List.mem_or_eq_of_mem_set hr with h1|h1
  ·exact h.row r h1
  ·rw [h1];exact WC
 refine ⟨by simpa using h.len,j5,λj c u hc vC=>?_⟩;have El:=j4 j5;have GH:j<n*sz:=by rw [←h.len];have:=(zad.1 hc).1;rw [El] at this;simpa using this
 have fT:0<sz:=by
  rcases zev sz with h0|h0
  ·subst h0;omega
  ·exact h0
 have Mz:j=(j / sz)*sz+j % sz:=by rw [zdp];exact (zew j sz).symm
 have hq:j / sz<rows.length:=by rw [h.len];exact zdw (by rw [zdp];exact GH)
 have hm:j % sz<sz:=zem _ fT;have cJ:i*sz+off+us.length<=n*sz:=by
  have:(i+1)*sz<=n*sz:=zcz _ (by rw [←h.len];omega);rw [zdi] at this;omega
 by_cases hqi:j / sz=i
 ·-- in the row that is written
  have wL:(rows.set i (row.take off++new++row.drop (off+new.length)))[j / sz]?=some (row.take off++new++row.drop (off+new.length)):=by rw [hqi,zbl,zaa rfl,zaa Dr]
  have A2:=kX j5 wL (zaf (show j % sz<_ by rw [WC];exact hm));rw [←Mz,hc] at A2;have fg:(row.take off++new++row.drop (off+new.length))[j % sz]?=some c:=by cases A2;exact zaf _
  rw [hqi] at Mz;by_cases h1:j % sz<off
  ·rw [zat,zao (by simp;omega),zal,zaa h1] at fg;rw [zat,zao (by simp;omega),zal,zaa (by omega)] at vC;obtain ⟨u2,a1,a2⟩:=h.get hx hi fg;rw [←Mz,vC] at a1;cases a1;exact a2
  ·by_cases h2:j % sz<off+new.length
   ·rw [zat,zaw (by simp;omega),zao (by simp;omega)] at fg;rw [zat,zaw (by simp;omega),zao (by simp;omega)] at vC;have e1:(List.take off row).length=off:=by simp;omega
    have e2:(List.take (i*sz+off) xs).length=i*sz+off:=by simp;omega
    rw [e1] at fg;rw [e2] at vC;have e3:j-(i*sz+off)=j % sz-off:=by omega
    rw [e3] at vC;exact mY _ c u fg vC
   ·rw [zaw (by simp;omega)] at fg vC;have e1:(List.take off row++new).length=off+new.length:=by simp;omega
    have e2:(List.take (i*sz+off) xs++us).length=i*sz+off+us.length:=by simp;omega
    rw [e1,zbd] at fg;rw [e2,zbd] at vC;have e3:off+new.length+(j % sz-(off+new.length))=j % sz:=by omega
    have e4:i*sz+off+us.length+(j-(i*sz+off+us.length))=j:=by omega
    rw [e3] at fg;rw [e4] at vC;obtain ⟨u2,a1,a2⟩:=h.get hx hi fg;rw [←Mz,vC] at a1;cases a1;exact a2
 ·have wL:(rows.set i (row.take off++new++row.drop (off+new.length)))[j / sz]?=some rows[j / sz]:=by rw [zbl,zab (zcn hqi)];exact zaf hq
  have hrl2:=h.row rows[j / sz] (zfg hq);have A2:=kX j5 wL (zaf (show j % sz<_ by rw [hrl2];exact hm));rw [←Mz,hc] at A2;have fg:rows[j / sz][j % sz]?=some c:=by cases A2;exact zaf _
  have hux:xs[j]?=some u:=by
   by_cases h1:j<i*sz+off
   ·rw [zat,zao (by simp;omega),zal,zaa h1] at vC;exact vC
   ·have:¬ j<i*sz+off+us.length:=by
     intro h2;apply hqi;have h3:j<(i+1)*sz:=by rw [zdi];omega
     have h4:i*sz<=j:=by omega
     exact Nat.le_antisymm (Nat.le_of_lt_succ (zdw (by rw [zdp];exact h3))) ((Nat.le_div_iff_mul_le fT).2 h4)
    rw [zaw (by simp;omega)] at vC;have e2:(List.take (i*sz+off) xs++us).length=i*sz+off+us.length:=by simp;omega
    rw [e2,zbd] at vC;have e4:i*sz+off+us.length+(j-(i*sz+off+us.length))=j:=by omega
    rw [e4] at vC;exact vC
  obtain ⟨u2,a1,a2⟩:=h.get hx (zaf hq) fg;rw [←Mz,hux] at a1;cases a1;exact a2
end rep
section rules
variable {P:Program} {f:Ctx} {N:Nat} {S:Start} {Q:EV->St->Prop} {k:List Item} {todo:List Item} {base:Nat} {env:Env} {st:St} {ops rest:List Oper}
 {d:Option Tmp} {ty:TypeId} {pos:String} {after:Array Edge} {gd:Option (Nat×Bool)} {t t2 e:TypeId} {x y z:Operand}
theorem bt.WD {α:Type} {tk:Nat} {e sz n:Nat} {l:List α} {row:α->List D} (fc:st.ar[tk]?=some ⟨e,sz,n,some (l.map row)⟩) (h:n=l.length->bt P f N S Q todo env st):bt P f N S Q todo env st:=by
 intro g w tmps hinv;obtain ⟨xs,_,_,h3⟩:=hinv.own tk e sz n _ fc;exact h (by have:=h3.len;simpa using this.symm) g w tmps hinv
theorem Inv.freeze {g:b7} {w:World} {tk e sz n:Nat} {rows:List (List D)} (h:Inv g base w st) (fc:st.ar[tk]?=some ⟨e,sz,n,some rows⟩) :
  ∃ g',g'.tk tk=g.tk tk/\Inv g' base w (st.bD tk ⟨e,sz,n,none⟩)/\Step base g w st g' w (st.bD tk ⟨e,sz,n,none⟩)/\dA g'.lim w (.sl sz rows) (g.tk tk):=by
 obtain ⟨xs,h1,h2,h3⟩:=h.own tk e sz n rows fc;obtain ⟨g',k1,k2,k3,k4⟩:=h.Pm (x':=⟨e,sz,n,none⟩) (v':=g.tk tk) (w':=w) fc h1 (.inl ⟨rfl,rfl,⟨rfl,rfl,rfl,zar _,λ_ _ _=>rfl⟩⟩) (λhh=>by cases hh) (λrows _ bO hh=>by cases hh) (λrows hh=>by cases hh);refine ⟨g',k1,k3,k4,Iq h1 h3.len h3.row (λb hb=>by rw [k2 b hb,tI rfl];exact zar _) λj u c hu hc=>?_⟩;exact ⟨(h3.rep j c u hc hu).1.mono k4.dB.cX,(h3.rep j c u hc hu).2⟩
theorem bt.freeze {i tk e sz n:Nat} {rows:List (List D)} (hl:lookup i env=some (.vc tk n)) (fc:st.ar[tk]?=some ⟨e,sz,n,some rows⟩)
  (h:bt P f N S Q todo ((i,.cY sz rows tk)::env) (st.bD tk ⟨e,sz,n,none⟩)):bt P f N S Q todo env st:=by
 intro g w tmps hinv hh he hN;obtain ⟨g',h1,h2,h3,h4⟩:=hinv.freeze fc;refine h g' w tmps h2 (hh.step h3) (λj y hy=>?_) hN;unfold lookup at hy;have A1:=he.mono h3.dB;cases hb:Nat.beq j i with
 | true =>
  rw [hb] at hy;cases hy;have:=zav hb;subst this;obtain ⟨v,m1,m2⟩:=he j _ hl;have hlen:tk<st.ar.length:=(zad.1 fc).1;obtain ⟨xs,o1,_,o3⟩:=hinv.own tk e sz n rows fc;rcases sV hinv fc m2 with hv|⟨n0,r0,A,hv⟩
  ·subst hv;exact ⟨_,m1,.cY sz rows tk _ e n h4 (by simp [St.bD,zbl,hlen]) (zga o3.len) (λ_=>.inl h1.symm)⟩
  ·subst n0;subst r0;subst hv;exact ⟨_,m1,.cY sz [] tk _ e 0 (.nil sz _) (by simp [St.bD,zbl,hlen]) (zar _) (λ_=>.inr ⟨rfl,_,rfl⟩)⟩
 | false =>
  rw [hb] at hy;exact A1 j y hy
theorem bt.Pv {i e sz:Nat} (hx:lookup i env=some (.d (.ex (.slice none 0 0)))) (h:bt P f N S Q todo ((i,.vc st.ar.length 0)::env) (st.tok ⟨e,sz,0,some []⟩)):bt P f N S Q todo env st:=by
 intro g w tmps hinv hh he hN;obtain ⟨g',h1,_,_,h2,h3⟩:=hinv.s8 ⟨e,sz,0,some []⟩ (World.ownsRow_nil w S.base _ _) (.inl ⟨rfl,rfl⟩) (λrows hr=>by cases hr;exact ⟨rfl,by simp,by simp⟩);refine h g' w tmps h2 (hh.step h3) (λj y hy=>?_) hN;unfold lookup at hy;cases hb:Nat.beq j i with
 | true =>
  rw [hb] at hy;cases hy;have:=zav hb;subst this;obtain ⟨v,m1,m2⟩:=he j _ hx;have hv:=m2.bN;subst hv;refine ⟨_,m1,.vc _ _ _ (by simp [St.tok]) ⟨_,_,_,rfl⟩ λx rows hx ho=>?_⟩;have:x=⟨e,sz,0,some []⟩:=by simpa [St.tok,zfc] using hx
  subst this;exact ⟨zar _,λ_=>.inl h1.symm⟩
 | false =>
  rw [hb] at hy;exact (he.mono h3.dB) j y hy
section sl
variable {α:Type} {sz:Nat} {row:α->List D} {l:List α} {ev:EV} {inf:TypeInfo} {tk n:Nat}
theorem vg (ht:P.underlying t=some (.slice e)) (hx:cX env x=some (.vc tk n)) {e':Nat} (fc:st.ar[tk]?=some ⟨e',sz,n,some (l.map row)⟩) :
  aL P env st ⟨d,.call ⟨.builtin .len,#[x],#[t]⟩,ty,pos,after,gd⟩ (.d (cI (l.length:Int))):=λg base w tmps hinv he=>by
 rcases sV hinv fc (aP he hx) with Hp|⟨n0,r0,A,hv⟩
 ·obtain ⟨_,xs,h2,_,h4⟩:=IG hinv fc Hp;obtain ⟨⟨A,c,hv⟩,_⟩:=jk h2;have hn:n=l.length:=by have:=h4.len;simpa using this.symm
  rw [←hn];exact ⟨_,.d _ _ (.ex _),λw' _=>Ej ht hv w'⟩
 ·have hl:l=[]:=by simpa using r0
  subst hl;exact ⟨_,.d _ _ (.ex _),λw' _=>Ej ht hv w'⟩
theorem ng [Inhabited α] {kk:IntKind} {i:Int} {e':Nat} (ht:P.underlying t=some (.slice e)) (hi:P.info? e=some inf) (fT:inf.size=sz) (hx:cX env x=some (.vc tk n)) (fc:st.ar[tk]?=some ⟨e',sz,n,some (l.map row)⟩) (hy:cX env y=some (.d (.ex (.int kk i)))) (h:0<=i/\i<l.length) :
  aL P env st ⟨d,.indexAddr t x y,ty,pos,after,gd⟩ (.vp tk n i.toNat 0):=λg base w tmps hinv he=>by
 have hvk0:Act.eval ⟨tmps,[]⟩ x=g.tk tk:=by
  rcases sV hinv fc (aP he hx) with Hp|⟨n0,r0,A,hv⟩
  ·exact Hp
  ·have hl:l=[]:=by simpa using r0
   rw [hl] at h;simp at h;omega
 obtain ⟨Hp,xs,h2,_,h4⟩:=IG hinv fc hvk0;have hn:n=l.length:=by have:=h4.len;simpa using this.symm
 obtain ⟨b,c,hv⟩:=(jk h2).2 (by omega);have hlen:tk<st.ar.length:=(zad.1 fc).1;subst fT;refine ⟨.pointer (some ⟨b,i.toNat*inf.size,none⟩),.vp _ _ _ _ _ hlen ⟨_,_,rfl⟩ λx rows hx ho=>?_,λw' _=>?_⟩
 ·rw [fc] at hx;cases hx;exact ⟨zar _,λ_=>⟨b,n,c,by rw [←Hp,hv],rfl⟩⟩
 ·have:=Cn (d:=d) (ty:=ty) (pos:=pos) (after:=after) (gd:=gd) ht hi hv (aP he hy).bN h.1 (by omega) w';rw [Addr.add_lit,zca] at this;exact this
theorem Pw {s:TypeId} {f off i o:Nat} (hf:fW P s f=some off) (hx:cX env x=some (.vp tk n i o)) :
  aL P env st ⟨d,.fieldAddr s x f,ty,pos,after,gd⟩ (.vp tk n i (o+off)):=λg base w tmps hinv he=>by
 have h:=aP he hx;generalize hv:Act.eval ⟨tmps,[]⟩ x=v at h;cases h with
 | vp _ _ _ _ _ ht hf' hh =>
  obtain ⟨b,o',rfl⟩:=hf';refine ⟨.pointer (some ⟨b,o'+off,none⟩),.vp _ _ _ _ _ ht ⟨_,_,rfl⟩ λx rows hx ho=>?_,λw' _=>by simp [execOp,hv,tF hf,Addr.add_lit]⟩;obtain ⟨h1,h2⟩:=hh x rows hx ho;refine ⟨h1,λe=>?_⟩;obtain ⟨b2,m,c,a1,a2⟩:=h2 e;cases a2;exact ⟨b,m,c,a1,by rw [zcp]⟩
theorem Fe {g:b7} {w:World} {i o e':Nat} {v:Value} {r:List D} {rows:List (List D)} (hinv:Inv g base w st) (fc:st.ar[tk]?=some ⟨e',sz,n,some rows⟩) (hv:bK g w st (.vp tk n i o) v) (hr:rows[i]?=some r) :
  ∃ b c xs,g.tk tk=.slice (some ⟨b,0,none⟩) n c/\v=.pointer (some ⟨b,i*sz+o,none⟩)/\w.ownsRow base e' sz (.slice (some ⟨b,0,none⟩) n c) n xs/\g.lim b=0/\dn g.lim w sz n rows xs/\b<w.heap.size /\
   ∀ j cc,r[j]?=some cc->∃ u,w.cell? ⟨b,i*sz+j,none⟩=some u/\xs[i*sz+j]?=some u/\dA g.lim w cc u/\u.oneCell'=true:=by
 cases hv with
 | vp _ _ _ _ _ ht hf' hh =>
  obtain ⟨b,m,c,a1,a2⟩:=(hh _ rows fc rfl).2 rfl;obtain ⟨xs,h1,h2,h3⟩:=hinv.own tk e' sz n rows fc;rw [a1] at h1 h2;have hm:m=n:=by
   rcases h1.2 with ⟨hh,_⟩|⟨_,_,_,hh,_⟩
   ·cases hh
   ·cases hh;rfl
  subst hm;refine ⟨b,c,xs,a1,a2,h1,h2 b rfl,h3,(h1.lt b rfl).2,λj cc hj=>?_⟩;obtain ⟨u,k1,k2⟩:=h3.get h1.1 hr hj;have:=h1.cells (g:=b) rfl _ u k1;rw [Addr.add_lit,zca] at this;exact ⟨u,this,k1,k2⟩
theorem yh [Inhabited α] {i o e':Nat} {c:D} (h1:(P.underlying t).map lT=some true) (hx:cX env x=some (.vp tk n i o)) (fc:st.ar[tk]?=some ⟨e',sz,n,some (l.map row)⟩) (hi:i<l.length) (hc:(row (nth l i))[o]?=some c) :
  aL P env st ⟨d,.load t x,ty,pos,after,gd⟩ (.d c):=λg base w tmps hinv he=>by
 obtain ⟨b,cp,xs,a1,a2,a3,a4,a5,a6,a7⟩:=Fe hinv fc (aP he hx) (Cv hi);obtain ⟨u,k1,k2,k3,k4⟩:=a7 o c hc;refine ⟨u,.d _ _ k3,λw' hb=>?_⟩;have:=(hb.cell (p:=⟨b,i*sz+o,none⟩) a6).trans k1;simp [execOp,a2,Instr.loadAt,Instr.sureAddr,loadVar,vE h1,this]
theorem mB [Inhabited α] {i o e' m:Nat} {cs:List D} (h1:(P.underlying t).map lT=some false) (hs:(P.info? t).map (·.size)=some m) (hx:cX env x=some (.vp tk n i o)) (fc:st.ar[tk]?=some ⟨e',sz,n,some (l.map row)⟩) (hi:i<l.length)
  (hm:o+m<=sz) (hc:((row (nth l i)).drop o).take m=cs):aL P env st ⟨d,.load t x,ty,pos,after,gd⟩ (.d (.agg cs)):=λg base w tmps hinv he=>by
 obtain ⟨b,cp,xs,a1,a2,a3,a4,a5,a6,a7⟩:=Fe hinv fc (aP he hx) (Cv hi);have Wq:(row (nth l i)).length=sz:=a5.row _ (zbj (Cv hi));have hl:cs.length=m:=by rw [←hc];simp;omega
 let us:List Value:=(xs.drop (i*sz+o)).take m
 have Qz:∀ j u,us[j]?=some u->j<m/\xs[i*sz+(o+j)]?=some u:=λj u hu=>by
  simp only [us,zal,zbd] at hu;split at hu
  ·rename_i hj;exact ⟨hj,by rw [←hu];congr 1;omega⟩
  ·cases hu
 have fg:∀ j,j<m->∃ cc u,cs[j]?=some cc/\us[j]?=some u/\w.cell? ⟨b,i*sz+o+j,none⟩=some u/\dA g.lim w cc u/\u.oneCell'=true:=λj hj=>by
  have e1:(row (nth l i))[o+j]?=some ((row (nth l i))[o+j]'(by omega)):=zaf _;obtain ⟨u,k1,k2,k3,k4⟩:=a7 (o+j) _ e1;refine ⟨_,u,by rw [show cs[j]?=(((row (nth l i)).drop o).take m)[j]? from by rw [hc],zal,zaa hj,zbd];exact e1,?_,by rw [zcp];exact k1,k3,k4⟩;simp only [us,zal,zbd];rw [zaa hj,←k2];congr 1;omega
 have hul:us.length=m:=by
  have h1:=a3.1;have Dr:i<n:=by have:=a5.len;simp at this;omega
  have h2:(i+1)*sz<=n*sz:=zcz _ Dr;rw [zdi] at h2;simp [us];omega
 refine ⟨.agg us.toArray,.d _ _ (.agg _ _ (by simp [hul,hl]) (λj u hu=>?_) (λj cc u A2 hu=>?_)),λw' hb=>?_⟩
 ·obtain ⟨hj,_⟩:=Qz j u (by simpa using hu);obtain ⟨cc,u',b1,b2,b3,b4,b5⟩:=fg j hj;have:us[j]?=some u:=by simpa using hu
  rw [b2] at this;cases this;exact b5
 ·obtain ⟨hj,_⟩:=Qz j u (by simpa using hu);obtain ⟨cc',u',b1,b2,b3,b4,b5⟩:=fg j hj;have:us[j]?=some u:=by simpa using hu
  rw [b2] at this;cases this;rw [b1] at A2;cases A2;exact b4
 ·obtain ⟨inf,lY,Ip⟩:∃ inf,P.info? t=some inf/\inf.size=m:=by
   cases hh:P.info? t with
   | none=>rw [hh] at hs;cases hs
   | some inf=>rw [hh] at hs;exact ⟨inf,rfl,by simpa using hs⟩
  have EU:=rE (P:=P) (w:=w') (b:=b) (off:=i*sz+o) hul (λj u hu=>by
   obtain ⟨hj,_⟩:=Qz j u hu;obtain ⟨cc,u',b1,b2,b3,b4,b5⟩:=fg j hj;rw [b2] at hu;cases hu;exact (hb.cell (p:=⟨b,i*sz+o+j,none⟩) a6).trans b3)
  simp [execOp,a2,Instr.loadAt,Instr.sureAddr,loadVar,yT h1,sizeOf,typeInfo,lY,Ip,EU]
theorem Bo [Inhabited α] {i o e' m:Nat} {new:List D} {a:α} (hx:cX env x=some (.vp tk n i o)) (fc:st.ar[tk]?=some ⟨e',sz,n,some (l.map row)⟩) (hi:i<l.length) (hy:cX env y=some ev) (hc:cellsD ev=some new)
  (hs:(P.info? t).map (·.size)=some m) (hm:new.length=m) (hof:o+m<=sz) (ha:(row (nth l i)).take o++new++(row (nth l i)).drop (o+new.length)=row a) :
  Im P base env st ⟨d,.store t x y,ty,pos,after,gd⟩ (st.bD tk ⟨e',sz,n,some ((l.set i a).map row)⟩):=by
 intro g w tmps hinv he;obtain ⟨b,cp,xs,a1,a2,a3,a4,a5,a6,a7⟩:=Fe hinv fc (aP he hx) (Cv hi);have ZJ:=lZ hc (aP he hy);generalize hu:Act.eval ⟨tmps,[]⟩ y=u at ZJ;have hul:u.cells.toList.length=new.length:=by simpa using ZJ.1
 have Dr:i<n:=by have:=a5.len;simp at this;omega
 have h2:(i+1)*sz<=n*sz:=zcz _ Dr;rw [zdi] at h2;have hone:∀ v∈u.cells.toList,v.oneCell'=true:=λv hv=>by
  obtain ⟨j,hj⟩:=zdg.1 hv;have GH:=(zad.1 hj).1;exact (ZJ.2 j new[j] v (zaf (by omega)) (by simpa using hj)).2
 obtain ⟨w',k1,k2,k3,k4⟩:=Pu (P:=P) a3 (i*sz+o) u.cells.toList (by omega) hone;have j5:=MH (us:=u.cells.toList) (new:=new) (off:=o) a5 a3.1 (Cv hi) (by omega) hul (λj c v A2 hv=>ZJ.2 j c v A2 (by simpa using hv));rw [ha] at j5;have yd:(l.map row).set i (row a)=(l.set i a).map row:=by rw [List.map_set]
 rw [yd] at j5;obtain ⟨g',q1,q2,q3,q4⟩:=hinv.Pm (x':=⟨e',sz,n,some ((l.set i a).map row)⟩) (v':=g.tk tk) (w':=w') fc (by rw [a1];exact k2) (.inl ⟨rfl,k4,by rw [a1];exact k3⟩) (λhh=>by cases hh) (λrows _ bO _=>⟨rfl,zar _,λ_=>rfl⟩) (λrows hh=>by cases hh;exact j5);refine ⟨g',w',?_,q3,q4⟩;obtain ⟨inf,lY,Ip⟩:∃ inf,P.info? t=some inf/\inf.size=m:=by
  cases hh:P.info? t with
  | none=>rw [hh] at hs;cases hs
  | some inf=>rw [hh] at hs;exact ⟨inf,rfl,by simpa using hs⟩
 have We:u.cells.size=m:=by have:=ZJ.1;omega
 simp [execOp,hu,a2,Instr.storeAt,Instr.sureAddr,storeVar,sizeOf,typeInfo,lY,Ip,We,k1]
end sl
end rules
end Go.Abs
